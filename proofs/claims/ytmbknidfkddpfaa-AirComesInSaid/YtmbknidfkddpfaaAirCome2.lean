/- Airports: a plane that is alone comes in. -/
import Derived.Test.YtmbknidfkddpfaaAirCome1
set_option linter.unusedVariables false
set_option linter.unusedSimpArgs false
set_option maxHeartbeats 4000000
set_option maxRecDepth 20000
namespace Go.Proofs.Ytmbknidfkddpfaa
open Go.Proofs.Ytmbknidfkddpfaa.PM

theorem cp_cp (ns : List Nd) : (ns.map cp).map cp = ns.map cp := by
  rw [List.map_map]
  rfl
theorem kd_cp (ns : List Nd) (k : Nat) : kd (ns.map cp) k = kd ns k := by
  unfold kd
  rw [List.getElem?_map]
  cases ns[k]? <;> rfl
theorem onOf_cp (ns : List Nd) : onOf (ns.map cp) = onOf ns := by
  funext k
  unfold onOf
  rw [List.getElem?_map]
  cases ns[k]? <;> rfl
theorem fieldErr_cp (nl nl' : Nl) (ns : List Nd) (inn : Int) : fieldErr ⟨nl', ns.map cp, inn⟩ = fieldErr ⟨nl, ns, inn⟩ := by
  have h1 : badNd (ns.map cp) = badNd ns := by
    funext k
    unfold badNd
    rw [List.getElem?_map]
    cases ns[k]? <;> rfl
  have h2 : outNd (ns.map cp) = outNd ns := by
    funext k
    unfold outNd
    rw [List.getElem?_map, List.length_map]
    cases ns[k]? <;> rfl
  have h3 : badIn (ns.map cp) inn = badIn ns inn := by
    unfold badIn
    rw [List.getElem?_map, List.length_map]
    cases ns[inn.toNat]? <;> rfl
  unfold fieldErr
  simp only [h1, h2, h3, List.length_map]
theorem wayX_cp (ns : List Nd) (a w : Nat) (fr : Nat → Bool) : wayX (ns.map cp) a w fr = wayX ns a w fr := by
  have hz : ∀ i : Int, zed (ns.map cp) a i fr = zed ns a i fr := by intro i; funext k; unfold zed; rw [kd_cp]
  have ht : thr (ns.map cp) a fr = thr ns a fr := by funext k; unfold thr; rw [kd_cp]
  have hc : cnt (ns.map cp) a w fr (ns.map cp).length = cnt ns a w fr ns.length := by
    show rss (onOf (ns.map cp)) (zed (ns.map cp) a w fr) (thr (ns.map cp) a fr) (ns.map cp).length (ns.map cp).length = rss (onOf ns) (zed ns a w fr) (thr ns a fr) ns.length ns.length
    rw [onOf_cp, hz, ht, List.length_map]
  unfold wayX fin wayL fin
  rw [hc, kd_cp, onOf_cp]
theorem sky1 {fd : Fd} {nlp : Nl} {p : Pl} {now : Int} (hf : fieldErr fd = 0) (hn0 : 0 ≤ now) (hn1 : now ≤ 1600000) (hs : Sane fd.nodes p) (h2 : p.since ≤ now) : skyErr ⟨fd, nlp, [p], now⟩ = 0 := by
  obtain ⟨k0, k1, k2, k3, k4, k5, k6, k7, k8, k9⟩ := hs
  have e1 : badPl now [p] 0 = false := by
    simp only [badPl, List.getElem?_cons_zero]
    exact decide_eq_false (by omega)
  have e2 : outPl fd.nodes.length [p] 0 = false := by
    simp only [outPl, List.getElem?_cons_zero]
    exact decide_eq_false (by omega)
  have e3 : takenPl fd.nodes [p] 0 = false := by
    simp [takenPl, anyN]
  have go : ∀ f : Nat → Bool, f 0 = false → anyN f 0 ([p] : List Pl).length = false := by
    intro f hf
    show anyN f 0 (0 + 1) = false
    rw [anyN_succ, hf]; rfl
  unfold skyErr
  rw [if_neg (by simp [hf]), if_neg (by simp), if_neg (by dsimp only; omega), go _ e1, go _ e2, go _ e3]
  rfl
theorem ord1 (p : Pl) (hp : 0 ≤ p.pos) : ordS [p] = [0] := by
  have : ordN [p] ([p] : List Pl).length = [0] := by
    show ordN [p] 0 ++ (if 0 ≤ p.pos then [((0 : Nat) : Int)] else []) = [0]
    rw [if_pos hp]; rfl
  show sortT (since [p]) (ordN [p] ([p] : List Pl).length) = [0]
  rw [this]; rfl
theorem step1_ok (ns : List Nd) (nlf nlp : Nl) (inn : Int) (p : Pl) (now : Int) (hf : nlf ≠ .bor) (hp : nlp ≠ .bor) (hb : ns.length ≤ 400) (hc : ∀ n ∈ ns, n.on.length ≤ 400) (he : skyErr ⟨⟨nlf, ns.map cp, inn⟩, nlp, [p], now⟩ = 0) (hnow : now < 1600000) (hpos : 0 ≤ p.pos) :
    R tb 19 [.agg [lst nlf (ns.map cp), .int .i64 inn, lst nlp [p], .int .i64 now]] = some (.tup [.agg [lst .any (ns.map cp), .int .i64 inn, lst .any [(turnP (ns.map cp) [less1 p] (less1 p)).1], .int .i64 (now + 1)], lst .any (if (turnP (ns.map cp) [less1 p] (less1 p)).2 = true then [(0 : Int)] else []), .int .i64 0]) := by
  have h := step_ok ⟨⟨nlf, ns.map cp, inn⟩, nlp, [p], now⟩ hf hp (by simpa using hb) (by simp) (by intro n hn; simp only [List.mem_map] at hn; obtain ⟨m, hm, rfl⟩ := hn; exact hc m hm) he hnow (by simp)
  dsimp only at h
  rw [ord1 p hpos, cp_cp] at h
  exact h
/-- Free of others. -/
theorem free1 (ns : List Nd) (p : Pl) (w : Nat) (hpos : 0 ≤ p.pos) : wayX ns p.pos.toNat w (freeAt ns [p]) = wayX ns p.pos.toNat w fT :=
  wayX_congr fun k hk hka => by
    unfold freeAt
    have : anyN (hitK [p] k) 0 ([p] : List Pl).length = false := by
      show anyN (hitK [p] k) 0 (0 + 1) = false
      rw [anyN_succ]
      show (anyN (hitK [p] k) 0 0 || decide (p.pos = k)) = false
      rw [decide_eq_false (by omega)]; rfl
    rw [this]; simp
/-- What a plane that is alone is, with the rest of its way and what it has to wait: the way that is found from where it is. -/
structure Come (ns : List Nd) (v : Int) (x : Int) (l : Int) (L : List Int) : Prop where
  x0 : 0 ≤ x
  x1 : x < ns.length
  l0 : 1 ≤ l
  l1 : l ≤ v
  way : wayX ns x.toNat 1 fT = (L, true)
theorem come_step {ns : List Nd} (hr : ∀ k, k < ns.length → ∀ o ∈ onOf ns k, 0 ≤ o ∧ o < ns.length) {v x l : Int} {L : List Int} (hv0 : 1 ≤ v) (hv1 : v ≤ 50) (h : Come ns v x l L) :
    (∃ x' l' L', turnP ns [less1 ⟨x, 1, 0, v, l⟩] (less1 ⟨x, 1, 0, v, l⟩) = (⟨x', 1, 0, v, l'⟩, false) ∧ Come ns v x' l' L' ∧ l' + v * L'.length + 1 = l + v * L.length ∧ L'.getLast? = L.getLast?) ∨
    (turnP ns [less1 ⟨x, 1, 0, v, l⟩] (less1 ⟨x, 1, 0, v, l⟩) = (⟨x, 0, 0, v, 0⟩, true) ∧ L = [x] ∧ l = 1) := by
  obtain ⟨x0, x1, l0, l1, hw⟩ := h
  by_cases hl : l = 1
  · subst hl
    have hls : less1 ⟨x, 1, 0, v, 1⟩ = ⟨x, 1, 0, v, 0⟩ := rfl
    rw [hls]
    by_cases he : endB 1 (kd ns x.toNat) = true
    · right
      have : wayX ns x.toNat 1 fT = ([((x.toNat : Nat) : Int)], true) := by unfold wayX; rw [if_pos (.inr he)]
      rw [this] at hw
      have hL := (Prod.mk.inj hw).1
      refine ⟨?_, by rw [← hL, show ((x.toNat : Nat) : Int) = x by omega], rfl⟩
      unfold turnP
      rw [if_neg (by dsimp only; omega)]
      exact if_pos he
    · left
      obtain ⟨y, rest, h1, h2, h3, h4⟩ := way_tail hr (a := x.toNat) (by omega) he (by rw [hw])
      have hfr : wayX ns x.toNat 1 (freeAt ns [⟨x, 1, 0, v, 0⟩]) = wayX ns x.toNat 1 fT := free1 ns ⟨x, 1, 0, v, 0⟩ 1 x0
      rw [hw] at h1
      dsimp only at h1
      subst h1
      refine ⟨y, v, y :: rest, ?_, ⟨h2, h3, hv0, by omega, h4⟩, ?_, ?_⟩
      · unfold turnP
        rw [if_neg (by dsimp only; omega)]
        refine (if_neg he).trans ?_
        show (if (wayX ns x.toNat 1 (freeAt ns [⟨x, 1, 0, v, 0⟩])).2 = true then _ else _) = _
        rw [hfr, hw, if_pos rfl]
        show ((⟨(wayX ns x.toNat 1 (freeAt ns [⟨x, 1, 0, v, 0⟩])).1.getD 1 0, 1, 0, v, v⟩ : Pl), false) = _
        rw [hfr, hw]
        rfl
      · simp only [List.length_cons]
        have : v * ((rest.length + 1 + 1 : Nat) : Int) = v * ((rest.length + 1 : Nat) : Int) + v := by
          rw [show ((rest.length + 1 + 1 : Nat) : Int) = ((rest.length + 1 : Nat) : Int) + 1 by omega, Int.mul_add, Int.mul_one]
        omega
      · rfl
  · left
    have hls : less1 ⟨x, 1, 0, v, l⟩ = ⟨x, 1, 0, v, l - 1⟩ := by unfold less1; dsimp only; rw [if_neg (by omega)]
    rw [hls]
    refine ⟨x, l - 1, L, ?_, ⟨x0, x1, by omega, by omega, hw⟩, by omega, rfl⟩
    unfold turnP
    rw [if_pos (.inl (show 0 < l - 1 by omega))]
end Go.Proofs.Ytmbknidfkddpfaa
