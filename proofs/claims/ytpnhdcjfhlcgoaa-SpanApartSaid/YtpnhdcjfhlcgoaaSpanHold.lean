/- Spans: the held tiles. -/
import Derived.Test.YtpnhdcjfhlcgoaaSpanOverA
import Derived.Test.YtpnhdcjfhlcgoaaSpanCode2
set_option linter.unusedVariables false
set_option linter.unusedSimpArgs false
set_option maxHeartbeats 4000000
set_option maxRecDepth 20000
namespace Go.Proofs.Ytpnhdcjfhlcgoaa
open Go.Proofs.Ytpnhdcjfhlcgoaa.PM

theorem R_none {T : Table} {f : Nat} {args : List PV} (hn : T.nat f args = none) (hf : findF T.fns f = none) : R T f args = none := by
  unfold R callP
  rw [hn]
  simp [hf]
theorem RO_none {T : Table} {f : Nat} {args : List PV} {H : Hp} (hn : T.natO f args H = none) (hf : findF T.fns f = none) : RO T f args H = none := by
  unfold RO callO
  rw [hn]
  simp [hf]
theorem R_nat {T : Table} {f : Nat} {args : List PV} {r : PV} (hn : T.nat f args = some r) : R T f args = some r := by
  unfold R callP
  rw [hn]
theorem RO_nat {T : Table} {f : Nat} {args : List PV} {H H' : Hp} {r : PV} (hn : T.natO f args H = some (r, H')) : RO T f args H = some (r, H') := by
  unfold RO callO
  rw [hn]

/-- The table of what the held tiles reach beside; n2: the calls that the library's contracts tell. -/
noncomputable def tbN (n2 : Nat → List PV → Hp → Option (PV × Hp)) : Table := ⟨[(25, pf25), (47, pf47), (26, pf26), (27, pf27), (8, pf8)], fun f args => R tb f args, fun f args H => match RO tb f args H with | some r => some r | none => n2 f args H, fun _ _ => none, sqT⟩
variable {n2 : Nat → List PV → Hp → Option (PV × Hp)}
theorem R2 {f : Nat} {args : List PV} {r : PV} (h : R tb f args = some r) : R (tbN n2) f args = some r := R_nat h
theorem RO2 {f : Nat} {args : List PV} {H H' : Hp} {r : PV} (h : RO tb f args H = some (r, H')) : RO (tbN n2) f args H = some (r, H') := by
  refine RO_nat ?_
  show (match RO tb f args H with | some r => some r | none => n2 f args H) = _
  rw [h]
theorem ROn {f : Nat} {args : List PV} {H H' : Hp} {r : PV} (hf : findF tb.fns f = none) (h : n2 f args H = some (r, H')) : RO (tbN n2) f args H = some (r, H') := by
  refine RO_nat ?_
  show (match RO tb f args H with | some r => some r | none => n2 f args H) = _
  rw [RO_none rfl hf, h]

theorem tbN_nat {f : Nat} {args : List PV} (hf : findF tb.fns f = none) : (tbN n2).nat f args = none := R_none rfl hf
theorem tbN_no {f : Nat} {args : List PV} {H : Hp} (hf : findF tb.fns f = none) (h : n2 f args H = none) : (tbN n2).natO f args H = none := by
  show (match RO tb f args H with | some r => some r | none => n2 f args H) = none
  rw [RO_none rfl hf, h]
theorem set_self {H : Hp} {c : Nat} {B : Blk} (h : H[c]? = some B) : H.set c B = H := by
  apply List.ext_getElem?
  intro i
  rw [List.getElem?_set]
  split
  · rename_i e
    subst e
    rw [if_pos (List.getElem?_eq_some_iff.1 h).1, h]
  · rfl
theorem appSeq_ok (hn2 : ∀ args H, n2 47 args H = none) {w hh k a b u : Int} {nl : Nl} {xs : List Int} (hw : 0 < w ∧ w < 1000000) (hab : 0 ≤ a ∧ a < b ∧ b < 1000000000000) (hd : byI w a b ≠ 0)
    {H : Hp} {c gen n : Nat} {L : List Int} (hH : H[c]? = some (bk 3 gen L)) (hn : n = L.length) (hl : n + (btw w a b).length ≤ 100000) :
    RO (tbN n2) 47 [mls Int c gen n, .clo (.func 64) [] [.pptr false [.int .i64 w, .int .i64 hh, lst nl xs] 0, .pptr false [.int .i64 k, .int .i64 a, .int .i64 b, .int .i64 u] 0]] H =
      some (mls Int c (gen + (btw w a b).length) (n + (btw w a b).length), H.set c (bk 3 (gen + (btw w a b).length) (L ++ btw w a b)) ++ [⟨22, 0, [mls Int c (gen + (btw w a b).length) (n + (btw w a b).length)]⟩]) := by
  have hsq := fun (p q : Bool) => sqT_lst (p := p) (q := q) (w := w) (hh := hh) (k := k) (a := a) (b := b) (u := u) (nl := nl) (ys := xs) hw hab hd
  generalize btw w a b = ts at *
  have hc : c < H.length := (List.getElem?_eq_some_iff.1 hH).1
  refine RO_of_G (F := pf47) (tbN_no rfl (hn2 _ _)) rfl rfl ?_
  simp (disch := first | omega | with_unfolding_all rfl) [pf47, env0_eq]
  refine G_rng (xs := ts) (hsq false false) (fun i h => h = H.set c (bk 3 (gen + i) (L ++ ts.take i)) ++ [⟨22, 0, [mls Int c (gen + i) (n + i)]⟩]) ?_ ?_ ?_
  · simp [set_self hH]
  · rintro i hi h' rfl
    have hg : (H.set c (bk 3 (gen + i) (L ++ ts.take i)) ++ [⟨22, 0, [mls Int c (gen + i) (n + i)]⟩])[c]? = some (bk 3 (gen + i) (L ++ ts.take i)) := by
      rw [List.getElem?_append_left (by simpa using hc)]
      simp [hc]
    have htk : ts.take (i + 1) = ts.take i ++ [ts[i]] := List.take_succ_eq_append_getElem hi
    have hap := evApp_mls (α := Int) (H := H.set c (bk 3 (gen + i) (L ++ ts.take i)) ++ [⟨22, 0, [mls Int c (gen + i) (n + i)]⟩]) (e := 3) (s := 1) (bytes := 8) (b := c) (gen := gen + i) (n := n + i) (x := lst .ex [ts[i]]) (ys := [ts[i]]) rfl rfl (by simp) hg (by simp; omega) (by simp; omega)
    rw [evApp_mls_lst, if_pos (show (1 : Nat) = Enc.sz Int from rfl), if_neg (by simp)] at hap
    have hlast : (H.set c (bk 3 (gen + i) (L ++ ts.take i)) ++ [⟨22, 0, [mls Int c (gen + i) (n + i)]⟩])[H.length]? = some ⟨22, 0, [mls Int c (gen + i) (n + i)]⟩ := by
      rw [List.getElem?_append_right (by simp)]
      simp
    generalize hHH : H.set c (bk 3 (gen + i) (L ++ ts.take i)) ++ [(⟨22, 0, [mls Int c (gen + i) (n + i)]⟩ : Blk)] = HH at *
    simp (disch := first | omega | with_unfolding_all rfl) [hlast, hap]
    rw [← hHH, List.set_append_left _ _ (by simpa using hc), List.set_set, List.set_append_right _ _ (by simp)]
    simp [Nat.add_assoc]
  · rintro h' rfl
    have hlast : (H.set c (bk 3 (gen + ts.length) (L ++ ts.take ts.length)) ++ [(⟨22, 0, [mls Int c (gen + ts.length) (n + ts.length)]⟩ : Blk)])[H.length]? = some ⟨22, 0, [mls Int c (gen + ts.length) (n + ts.length)]⟩ := by
      rw [List.getElem?_append_right (by simp)]
      simp
    generalize hHH : H.set c (bk 3 (gen + ts.length) (L ++ ts.take ts.length)) ++ [(⟨22, 0, [mls Int c (gen + ts.length) (n + ts.length)]⟩ : Blk)] = HH at *
    simp (disch := first | omega | with_unfolding_all rfl) [hlast]
    rw [← hHH, List.take_length]
end Go.Proofs.Ytpnhdcjfhlcgoaa
