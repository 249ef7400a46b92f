/- Airports: a tick. -/
import Derived.Test.YtmbknidfkddpfaaPmTwenty
import Derived.Test.YtmbknidfkddpfaaAirStep1
import Derived.Test.YtmbknidfkddpfaaAirLeast
import Derived.Test.YtmbknidfkddpfaaAirClone
set_option linter.unusedVariables false
set_option linter.unusedSimpArgs false
set_option maxHeartbeats 4000000
namespace Go.Proofs.Ytmbknidfkddpfaa
open Go.Proofs.Ytmbknidfkddpfaa.PM

/-- What a plane becomes whose turn it is, the planes with less to wait, whether it is where it wished. -/
def turnP (ns : List Nd) (pl1 : List Pl) (p : Pl) : Pl × Bool :=
  if 0 < p.left ∨ p.wish = 0 then (p, false)
  else if endB p.wish.toNat (kd ns p.pos.toNat) = true then (⟨if p.wish = 2 then -1 else p.pos, 0, p.since, p.speed, p.left⟩, true)
  else if (wayX ns p.pos.toNat p.wish.toNat (freeAt ns pl1)).2 = true then (⟨(wayX ns p.pos.toNat p.wish.toNat (freeAt ns pl1)).1.getD 1 0, p.wish, p.since, p.speed, p.speed⟩, false)
  else (p, false)
def less1 (p : Pl) : Pl := ⟨p.pos, p.wish, p.since, p.speed, if p.left - 1 < 0 then 0 else p.left - 1⟩
def turn (ns : List Nd) (st : List Pl × List Int) (i : Nat) : List Pl × List Int := match st.1[i]? with
  | none => st
  | some p => ((st.1.set i (less1 p)).set i (turnP ns (st.1.set i (less1 p)) (less1 p)).1, if (turnP ns (st.1.set i (less1 p)) (less1 p)).2 then st.2 ++ [(i : Int)] else st.2)
/-- Behind the first turns. -/
def stN (ns : List Nd) (pl : List Pl) (ord : List Int) : Nat → List Pl × List Int
  | 0 => (pl, [])
  | j + 1 => match ord[j]? with | some x => turn ns (stN ns pl ord j) x.toNat | none => stN ns pl ord j
structure Sane (ns : List Nd) (p : Pl) : Prop where
  p0 : -1 ≤ p.pos
  p1 : p.pos < ns.length
  w0 : 0 ≤ p.wish
  w1 : p.wish ≤ 2
  v0 : 1 ≤ p.speed
  v1 : p.speed ≤ 1000000
  l0 : 0 ≤ p.left
  l1 : p.left ≤ 1000000
  s0 : 0 ≤ p.since
  s1 : p.since ≤ 1600000
theorem sane_less {ns : List Nd} {p : Pl} (h : Sane ns p) : Sane ns (less1 p) := by
  have h1 := h.l0
  have h2 := h.l1
  refine ⟨h.p0, h.p1, h.w0, h.w1, h.v0, h.v1, ?_, ?_, h.s0, h.s1⟩
  · unfold less1; dsimp only; split <;> omega
  · unfold less1; dsimp only; split <;> omega
theorem wayX_two {ns : List Nd} (hr : ∀ k, k < ns.length → ∀ o ∈ onOf ns k, 0 ≤ o ∧ o < ns.length) {a w : Nat} {fr : Nat → Bool} (ha : a < ns.length) (hw : w ≠ 0) (he : ¬ endB w (kd ns a) = true) (hx : (wayX ns a w fr).2 = true) :
    ∃ x rest, (wayX ns a w fr).1 = (a : Int) :: x :: rest ∧ x ∈ onOf ns a := by
  have hi : Inv (onOf ns) ns.length ns.length (cnt ns a w fr ns.length) := inv_rss _
  have hla : a < (cnt ns a w fr ns.length).length := by rw [hi.len]; exact ha
  have hfin : fin ns a w fr = (cnt ns a w fr ns.length)[a] := by
    unfold fin
    simp only [List.getD_eq_getElem?_getD, List.getElem?_eq_getElem hla, Option.getD_some]
  unfold wayX at hx ⊢
  rw [if_neg (by rintro (q | q); exact hw q; exact he q)] at hx ⊢
  split at hx
  · cases hx
  rename_i hf
  rw [if_neg hf]
  have hne : fin ns a w fr ≠ 0 := by
    intro q
    have hz := (rss_end (z := zed ns a w fr) (th := thr ns a fr) (N := ns.length) ns.length a _ (List.getElem?_eq_getElem hla)).1 (by rw [← hfin]; exact q)
    rw [zed_eq, Bool.and_eq_true] at hz
    exact he hz.1
  obtain ⟨n, hn⟩ : ∃ n : Nat, fin ns a w fr = n + 1 := ⟨(fin ns a w fr - 1).toNat, by omega⟩
  have hnx := nxt_ex (hi.nx a _ (List.getElem?_eq_getElem hla) (by rw [← hfin]; omega))
  rw [← hfin, hn, show ((n : Int) + 1 - 1) = n by omega] at hnx
  refine ⟨nxt (cnt ns a w fr ns.length) (onOf ns a) n, walk (onOf ns) (cnt ns a w fr ns.length) n (nxt (cnt ns a w fr ns.length) (onOf ns a) n), ?_, hnx.1⟩
  unfold wayL
  rw [hn, show ((n : Int) + 1).toNat = n + 1 by omega]
  rfl
end Go.Proofs.Ytmbknidfkddpfaa
