/- Airports: copies of a sky. -/
import Derived.Test.YtmbknidfkddpfaaPmEighteen
import Derived.Test.YtmbknidfkddpfaaAirSame
set_option linter.unusedVariables false
set_option linter.unusedSimpArgs false
set_option maxHeartbeats 1000000
namespace Go.Proofs.Ytmbknidfkddpfaa
open Go.Proofs.Ytmbknidfkddpfaa.PM

/-- A node's copy. -/
def cp (n : Nd) : Nd := ⟨n.kind, nlA n.on, n.on⟩
@[simp] theorem cp_nl (n : Nd) : (cp n).nl = nlA n.on := rfl
instance : Flat Nd := ⟨fun _ _ _ _ => rfl⟩
def z4 : Blk := ⟨31, 0, [.list .nil 2 [], .int .i64 0, .list .nil 5 [], .int .i64 0], none⟩
@[simp] theorem dec_nd (a : Int) (nl : Nl) (os : List Int) : (Enc.dec [PV.int .i64 a, lst nl os] : Option Nd) = some ⟨a, nl, os⟩ := decOf_enc encNd_inj ⟨a, nl, os⟩
@[simp] theorem list_nd1 (nl nl' : Nl) (a : Int) (os : List Int) : PV.list nl 2 [.int .i64 a, lst nl' os] = lst nl [(⟨a, nl', os⟩ : Nd)] := rfl
@[simp] theorem evMks_nd {e bytes : Nat} {k k' : IntKind} {l c : Int} {H : Hp} (h0 : 0 ≤ l) (h1 : l ≤ c) (h2 : (bytes : Int) * c ≤ 281474976710656) :
    evMks e 2 bytes [.int .i64 0, .list .nil 1 []] (.int k l) (.int k' c) H = some (mls Nd H.length 0 l.toNat, H ++ [bk e 0 (List.replicate l.toNat (⟨0, .nil, []⟩ : Nd))]) := evMks_eq rfl rfl h0 h1 h2
theorem clone_ok (s : Sk) (hf : s.fd.nl ≠ .bor) (hp : s.nlp ≠ .bor) (hb : s.fd.nodes.length ≤ 400) (hpb : s.pls.length ≤ 400) (hc : ∀ n ∈ s.fd.nodes, n.on.length ≤ 400) (hne : s.pls ≠ []) :
    RO tb 37 [vSk s] [z4] = some (.agg [mls Nd 4 s.fd.nodes.length s.fd.nodes.length, .int .i64 s.fd.inn, mls Pl 3 1 s.pls.length, .int .i64 s.now],
      [z4, ⟨31, 0, [mls Nd 4 s.fd.nodes.length s.fd.nodes.length, .int .i64 s.fd.inn, mls Pl 3 1 s.pls.length, .int .i64 s.now], none⟩,
        ⟨31, 0, [mls Nd 4 s.fd.nodes.length s.fd.nodes.length, .int .i64 s.fd.inn, mls Pl 3 1 s.pls.length, .int .i64 s.now], none⟩,
        bk 47 1 s.pls, bk 58 s.fd.nodes.length (s.fd.nodes.map cp)]) := by
  have hm : maxLen = 9223372036854775807 := rfl
  refine RO_of_G (F := pf37) rfl rfl rfl ?_
  simp (disch := first | omega | with_unfolding_all rfl) [pf37, env0_eq, z4, hne]
  refine G_scanK [1, 2, 12, 13] (fun i e h => get e 14 = .int .i64 (i : Int) ∧ get e 3 = mls Nd 4 i i ∧
      h = [z4, ⟨31, 0, [lst s.fd.nl s.fd.nodes, .int .i64 s.fd.inn, mls Pl 3 1 s.pls.length, .int .i64 s.now], none⟩, z4, bk 47 1 s.pls, bk 58 i ((s.fd.nodes.map cp).take i)]) (fun _ => false) s.fd.nodes.length 0 ?_ (Nat.zero_le _) ?_
  · simp [z4, mls]
  rintro i e h - hi hz hk ⟨g1, g2, rfl⟩
  simp at hk
  simp (disch := first | omega | with_unfolding_all rfl) [hk, g1, g2, z4]
  refine G_brd (fun h => ?_) (fun h => ?_)
  · have hon := hc _ (List.getElem_mem h)
    have hti : ((s.fd.nodes.map cp).take i).length = i := by simp; omega
    have hsn : (s.fd.nodes.map cp).take i ++ [⟨s.fd.nodes[i].kind, nlA s.fd.nodes[i].on, s.fd.nodes[i].on⟩] = (s.fd.nodes.map cp).take (i + 1) := by
      rw [← take_snoc (xs := s.fd.nodes.map cp) (i := i) (by simpa using h)]; simp [cp]
    simp (disch := first | omega | with_unfolding_all rfl) [h, hsn]
  · obtain rfl : i = s.fd.nodes.length := by omega
    simp (disch := first | omega | with_unfolding_all rfl) [h]
    rw [List.take_of_length_le (by simp)]
theorem clone0_ok (s : Sk) (hf : s.fd.nl ≠ .bor) (hp : s.nlp ≠ .bor) (hb : s.fd.nodes.length ≤ 400) (hpb : s.pls.length ≤ 400) (hc : ∀ n ∈ s.fd.nodes, n.on.length ≤ 400) (hne : s.pls = []) :
    RO tb 37 [vSk s] [z4] = some (.agg [mls Nd 3 s.fd.nodes.length s.fd.nodes.length, .int .i64 s.fd.inn, .list .nil 5 [], .int .i64 s.now],
      [z4, ⟨31, 0, [mls Nd 3 s.fd.nodes.length s.fd.nodes.length, .int .i64 s.fd.inn, .list .nil 5 [], .int .i64 s.now], none⟩,
        ⟨31, 0, [mls Nd 3 s.fd.nodes.length s.fd.nodes.length, .int .i64 s.fd.inn, .list .nil 5 [], .int .i64 s.now], none⟩,
        bk 58 s.fd.nodes.length (s.fd.nodes.map cp)]) := by
  have hm : maxLen = 9223372036854775807 := rfl
  refine RO_of_G (F := pf37) rfl rfl rfl ?_
  simp (disch := first | omega | with_unfolding_all rfl) [pf37, env0_eq, z4, hne]
  refine G_scanK [1, 2, 12, 13] (fun i e h => get e 14 = .int .i64 (i : Int) ∧ get e 3 = mls Nd 3 i i ∧
      h = [z4, ⟨31, 0, [lst s.fd.nl s.fd.nodes, .int .i64 s.fd.inn, .list .nil 5 [], .int .i64 s.now], none⟩, z4, bk 58 i ((s.fd.nodes.map cp).take i)]) (fun _ => false) s.fd.nodes.length 0 ?_ (Nat.zero_le _) ?_
  · simp [z4, mls, lst]
  rintro i e h - hi hz hk ⟨g1, g2, rfl⟩
  simp at hk
  simp (disch := first | omega | with_unfolding_all rfl) [hk, g1, g2, z4]
  refine G_brd (fun h => ?_) (fun h => ?_)
  · have hon := hc _ (List.getElem_mem h)
    have hti : ((s.fd.nodes.map cp).take i).length = i := by simp; omega
    have hsn : (s.fd.nodes.map cp).take i ++ [⟨s.fd.nodes[i].kind, nlA s.fd.nodes[i].on, s.fd.nodes[i].on⟩] = (s.fd.nodes.map cp).take (i + 1) := by
      rw [← take_snoc (xs := s.fd.nodes.map cp) (i := i) (by simpa using h)]; simp [cp]
    simp (disch := first | omega | with_unfolding_all rfl) [h, hsn]
  · obtain rfl : i = s.fd.nodes.length := by omega
    simp (disch := first | omega | with_unfolding_all rfl) [h]
    rw [List.take_of_length_le (by simp)]
def cpAt (ns : List Nd) (i : Nat) : Nd := match ns[i]? with | some n => cp n | none => ⟨0, .nil, []⟩
theorem copied_ok (s : Sk) (hf : s.fd.nl ≠ .bor) (hp : s.nlp ≠ .bor) (hb : s.fd.nodes.length ≤ 400) (hpb : s.pls.length ≤ 400) (hc : ∀ n ∈ s.fd.nodes, n.on.length ≤ 400) (hne : s.pls ≠ []) :
    RO tb 44 [vSk s] [z4] = some (.agg [mls Nd 3 0 s.fd.nodes.length, .int .i64 s.fd.inn, mls Pl 4 1 s.pls.length, .int .i64 s.now],
      [z4, ⟨31, 0, [mls Nd 3 0 s.fd.nodes.length, .int .i64 s.fd.inn, mls Pl 4 1 s.pls.length, .int .i64 s.now], none⟩,
        ⟨31, 0, [mls Nd 3 0 s.fd.nodes.length, .int .i64 s.fd.inn, mls Pl 4 1 s.pls.length, .int .i64 s.now], none⟩,
        bk 58 0 (s.fd.nodes.map cp), bk 47 1 s.pls]) := by
  have hm : maxLen = 9223372036854775807 := rfl
  refine RO_of_G (F := pf44) rfl rfl rfl ?_
  simp (disch := first | omega | with_unfolding_all rfl) [pf44, env0_eq, z4, hne]
  refine G_scanK [1, 2, 3, 13, 14] (fun i e h => get e 15 = .int .i64 (i : Int) ∧
      h = [z4, ⟨31, 0, [lst s.fd.nl s.fd.nodes, .int .i64 s.fd.inn, lst s.nlp s.pls, .int .i64 s.now], none⟩, z4, bk 58 0 (fillL (List.replicate s.fd.nodes.length ⟨0, .nil, []⟩) (cpAt s.fd.nodes) i)]) (fun _ => false) s.fd.nodes.length 0 ?_ (Nat.zero_le _) ?_
  · simp [z4, fillL]
  rintro i e h - hi hz hk ⟨g1, rfl⟩
  simp at hk
  simp (disch := first | omega | with_unfolding_all rfl) [hk, g1, z4]
  refine G_brd (fun h => ?_) (fun h => ?_)
  · have hon := hc _ (List.getElem_mem h)
    have hti : (fillL (List.replicate s.fd.nodes.length ⟨0, .nil, []⟩) (cpAt s.fd.nodes) i).length = s.fd.nodes.length := by simp
    simp (disch := first | omega | with_unfolding_all rfl) [h]
    simp [fillL, cpAt, cp, h]
  · obtain rfl : i = s.fd.nodes.length := by omega
    have hfl : fillL (List.replicate s.fd.nodes.length ⟨0, .nil, []⟩) (cpAt s.fd.nodes) s.fd.nodes.length = s.fd.nodes.map cp := by
      have := fillL_all (z := List.replicate s.fd.nodes.length (⟨0, .nil, []⟩ : Nd)) (f := cpAt s.fd.nodes) (ys := s.fd.nodes.map cp) (by simp) (fun j hj => by
        have hj' : j < s.fd.nodes.length := by simpa using hj
        simp [cpAt, hj'])
      simpa using this
    simp (disch := first | omega | with_unfolding_all rfl) [h, hne, hfl]
end Go.Proofs.Ytmbknidfkddpfaa
