/- Airports: what is kept by ticks, arrivals and wishes, the plain law. -/
import Derived.Test.YtmbknidfkddpfaaAirKeep1
import Derived.Test.YtmbknidfkddpfaaAirArrive
set_option linter.unusedVariables false
set_option linter.unusedSimpArgs false
set_option maxHeartbeats 4000000
set_option maxRecDepth 20000
namespace Go.Proofs.Ytmbknidfkddpfaa
open Go.Proofs.Ytmbknidfkddpfaa.PM

/-- The same airport with other planes. -/
def nxS (s : Sk) (pl : List Pl) (now : Int) : Sk := ⟨⟨.any, s.fd.nodes.map cp, s.fd.inn⟩, .any, pl, now⟩
theorem sane_cp {ns : List Nd} {p : Pl} : Sane (ns.map cp) p ↔ Sane ns p := by
  constructor
  · rintro ⟨k0, k1, k2, k3, k4, k5, k6, k7, k8, k9⟩; exact ⟨k0, by simpa using k1, k2, k3, k4, k5, k6, k7, k8, k9⟩
  · rintro ⟨k0, k1, k2, k3, k4, k5, k6, k7, k8, k9⟩; exact ⟨k0, by simpa using k1, k2, k3, k4, k5, k6, k7, k8, k9⟩
theorem nx_err {s : Sk} {pl : List Pl} {now : Int} (h0 : fieldErr s.fd = 0) (h1 : pl.length ≤ 40) (h2 : 0 ≤ now ∧ now ≤ 1600000) (h3 : ∀ p ∈ pl, Sane s.fd.nodes p ∧ p.since ≤ now) (h4 : Apart s.fd.nodes pl) : skyErr (nxS s pl now) = 0 := by
  refine skyErr_of (by show fieldErr ⟨.any, s.fd.nodes.map cp, s.fd.inn⟩ = 0; rw [fieldErr_cp s.fd.nl]; exact h0) h1 h2 (fun p hp => ⟨sane_cp.2 (h3 p hp).1, (h3 p hp).2⟩) ?_
  intro i j p q hi hj hij hp he
  show kd (s.fd.nodes.map cp) _ = 0
  rw [kd_cp]
  exact h4 i j p q hi hj hij hp he
theorem set_apart {ns : List Nd} {pl : List Pl} {i : Nat} {p : Pl} (h : Apart ns pl) (hi : i < pl.length) (hp : p.pos = pl[i].pos ∨ (0 ≤ p.pos ∧ kd ns p.pos.toNat = 0)) : Apart ns (pl.set i p) := by
  have hsi : pl[i]? = some pl[i] := List.getElem?_eq_getElem hi
  have hget : ∀ j, (pl.set i p)[j]? = if j = i then some p else pl[j]? := fun j => by
    by_cases e : j = i
    · subst e; rw [if_pos rfl, List.getElem?_set_self hi]
    · rw [if_neg e, List.getElem?_set_ne (fun c => e c.symm)]
  intro a b x y ha hb hab hx0 hxy
  rw [hget] at ha hb
  by_cases ea : a = i
  · rw [if_pos ea, Option.some.injEq] at ha
    subst ha
    rw [if_neg (by omega)] at hb
    rcases hp with hp | ⟨_, hp⟩
    · rw [hp]
      exact h i b _ y hsi hb (by omega) (by omega) (by omega)
    · exact hp
  · rw [if_neg ea] at ha
    by_cases eb : b = i
    · rw [if_pos eb, Option.some.injEq] at hb
      subst hb
      rcases hp with hp | ⟨_, hp⟩
      · rw [hxy, hp]
        exact h i a _ x hsi ha (by omega) (by omega) (by omega)
      · rw [hxy]; exact hp
    · rw [if_neg eb] at hb
      exact h a b x y ha hb hab hx0 hxy
theorem set_sane {ns : List Nd} {now : Int} {pl : List Pl} {i : Nat} {p : Pl} (h : ∀ q ∈ pl, Sane ns q ∧ q.since ≤ now) (hp : Sane ns p ∧ p.since ≤ now) : ∀ q ∈ pl.set i p, Sane ns q ∧ q.since ≤ now := fun q hq => by
  rcases List.mem_or_eq_of_mem_set hq with hq | rfl
  · exact h q hq
  · exact hp
/-- A plane that asks. -/
def askPl (s : Sk) (i : Nat) (w : Int) : Pl := match s.pls[i]? with | some p => ⟨p.pos, w, s.now, p.speed, p.left⟩ | none => ⟨0, 0, 0, 0, 0⟩
def askE (s : Sk) (i w : Int) : Int := if skyErr s ≠ 0 then skyErr s else if i < 0 ∨ (s.pls.length : Int) ≤ i then 2 else match s.pls[i.toNat]? with | some p => if p.pos < 0 ∨ p.wish ≠ 0 then 13 else if w ≠ 1 ∧ w ≠ 2 then 1 else 0 | none => 0
theorem askE_in (s : Sk) (i w : Int) (h0 : skyErr s = 0) (h1 : ¬ i < 0) (h2 : ¬ (s.pls.length : Int) ≤ i) (hl : i.toNat < s.pls.length) : askE s i w = if s.pls[i.toNat].pos < 0 ∨ s.pls[i.toNat].wish ≠ 0 then 13 else if w ≠ 1 ∧ w ≠ 2 then 1 else 0 := by
  unfold askE
  rw [if_neg (by simp [h0]), if_neg (by omega), List.getElem?_eq_getElem hl]
theorem ask_keeps {s : Sk} {i w : Int} (h : askE s i w = 0) : skyErr (nxS s (s.pls.set i.toNat (askPl s i.toNat w)) s.now) = 0 ∧ ∀ (k : Nat) (p q : Pl), (s.pls.set i.toNat (askPl s i.toNat w))[k]? = some p → s.pls[k]? = some q → p.pos = q.pos := by
  unfold askE at h
  split at h
  · rename_i q; exact absurd h q
  rename_i h0
  split at h
  · cases h
  rename_i h1
  have he : skyErr s = 0 := by simpa using h0
  obtain ⟨hs, hn0, hn1, hp40, hf⟩ := skyErr_sane he
  obtain ⟨ha, hsn⟩ := skyErr_apart he
  have hil : i.toNat < s.pls.length := by omega
  rw [List.getElem?_eq_getElem hil] at h
  dsimp only at h
  split at h
  · cases h
  rename_i h2
  split at h
  · cases h
  rename_i h3
  obtain ⟨q, hq⟩ : ∃ q, q = s.pls[i.toNat] := ⟨_, rfl⟩
  have hsi : s.pls[i.toNat]? = some q := by rw [List.getElem?_eq_getElem hil, hq]
  have hA : askPl s i.toNat w = ⟨q.pos, w, s.now, q.speed, q.left⟩ := by unfold askPl; rw [hsi]
  obtain ⟨k0, k1, k2, k3, k4, k5, k6, k7, k8, k9⟩ := hs q (List.mem_of_getElem? hsi)
  have hall : ∀ p ∈ s.pls, Sane s.fd.nodes p ∧ p.since ≤ s.now := fun p hp => ⟨hs p hp, hsn p hp⟩
  rw [hA]
  refine ⟨nx_err hf (by simpa using hp40) ⟨hn0, hn1⟩ (set_sane hall ⟨⟨k0, k1, by dsimp only; omega, by dsimp only; omega, k4, k5, k6, k7, by dsimp only; omega, by dsimp only; omega⟩, by dsimp only; omega⟩) (set_apart ha hil (.inl (by rw [hq]))), fun k p p' hk hk' => ?_⟩
  by_cases e : k = i.toNat
  · subst e
    rw [List.getElem?_set_self hil, Option.some.injEq] at hk
    rw [hsi, Option.some.injEq] at hk'
    rw [← hk, ← hk']
  · rw [List.getElem?_set_ne (fun c => e c.symm), hk', Option.some.injEq] at hk
    rw [hk]
theorem arr_keeps {s : Sk} {i : Int} (h : arrErr s i = 0) : skyErr (nxS s (s.pls.set i.toNat (arrPl s i.toNat)) s.now) = 0 := by
  unfold arrErr at h
  split at h
  · rename_i q; exact absurd h q
  rename_i h0
  split at h
  · cases h
  rename_i h1
  have he : skyErr s = 0 := by simpa using h0
  obtain ⟨hs, hn0, hn1, hp40, hf⟩ := skyErr_sane he
  obtain ⟨ha, hsn⟩ := skyErr_apart he
  have hil : i.toNat < s.pls.length := by omega
  obtain ⟨q, hq⟩ : ∃ q, q = s.pls[i.toNat] := ⟨_, rfl⟩
  have hsi : s.pls[i.toNat]? = some q := by rw [List.getElem?_eq_getElem hil, hq]
  have hA : arrPl s i.toNat = ⟨s.fd.inn, 1, s.now, q.speed, q.speed⟩ := by unfold arrPl; rw [hsi]
  obtain ⟨k0, k1, k2, k3, k4, k5, k6, k7, k8, k9⟩ := hs q (List.mem_of_getElem? hsi)
  obtain ⟨i0, i1, i2⟩ := fieldErr_inn hf
  have hall : ∀ p ∈ s.pls, Sane s.fd.nodes p ∧ p.since ≤ s.now := fun p hp => ⟨hs p hp, hsn p hp⟩
  rw [hA]
  exact nx_err hf (by simpa using hp40) ⟨hn0, hn1⟩ (set_sane hall ⟨⟨by dsimp only; omega, i1, by dsimp only; omega, by dsimp only; omega, k4, k5, by dsimp only; omega, by dsimp only; omega, by dsimp only; omega, by dsimp only; omega⟩, by dsimp only; omega⟩) (set_apart ha hil (.inr ⟨i0, i2⟩))
abbrev stS (s : Sk) : List Pl × List Int := stN (s.fd.nodes.map cp) s.pls (ordS s.pls) (ordS s.pls).length
theorem step_keeps {s : Sk} (he : skyErr s = 0) (hn : s.now < 1600000) : (stS s).1.length = s.pls.length ∧ skyErr (nxS s (stS s).1 (s.now + 1)) = 0 ∧
    (∀ (i : Nat) (p q : Pl), (stS s).1[i]? = some p → s.pls[i]? = some q → p.pos = q.pos ∨ (p.pos = -1 ∧ q.wish = 2 ∧ 0 ≤ q.pos ∧ kd s.fd.nodes q.pos.toNat = 0) ∨ (0 ≤ q.pos ∧ 0 ≤ p.pos ∧ p.pos ∈ onOf s.fd.nodes q.pos.toNat)) ∧
    (∀ x ∈ (stS s).2, ∃ (i : Nat) (p q : Pl), x = (i : Int) ∧ (stS s).1[i]? = some p ∧ s.pls[i]? = some q ∧ p.wish = 0 ∧ (q.wish = 1 → 0 ≤ p.pos ∧ kd s.fd.nodes p.pos.toNat = 3) ∧ (q.wish = 2 → p.pos = -1)) := by
  obtain ⟨hs, hn0, hn1, hp40, hf⟩ := skyErr_sane he
  obtain ⟨ha, hsn⟩ := skyErr_apart he
  have hr : ∀ k, k < (s.fd.nodes.map cp).length → ∀ o ∈ onOf (s.fd.nodes.map cp) k, 0 ≤ o ∧ o < (s.fd.nodes.map cp).length := by
    intro k hk o ho
    rw [onOf_cp] at ho
    rw [List.length_map] at hk ⊢
    rw [on_eq hk] at ho
    exact fieldErr_on hf _ (List.getElem_mem hk) o ho
  obtain ⟨o1, o2⟩ := ordS_ok s.pls
  have hk := Kp.all (ns := s.fd.nodes.map cp) (now := s.now) hr (fun p hp => ⟨sane_cp.2 (hs p hp), hsn p hp⟩) (fun i j p q a b c d e => by rw [kd_cp]; exact ha i j p q a b c d e) o1 o2 (ordS s.pls).length (Nat.le_refl _)
  obtain ⟨k1, k2, k3, k4, k5, k6⟩ := hk
  refine ⟨k1, nx_err hf (by rw [k1]; exact hp40) ⟨by omega, by omega⟩ (fun p hp => ⟨sane_cp.1 (k2 p hp).1, by have := (k2 p hp).2; omega⟩) (fun i j p q a b c d e => by have := k3 i j p q a b c d e; rwa [kd_cp] at this), fun i p q a b => ?_, fun x hx => ?_⟩
  · have := k5 i p q a b
    rwa [kd_cp, onOf_cp] at this
  · obtain ⟨i, p, q, a1, a2, a3, a4, a5, a6, a7⟩ := k6 x hx
    exact ⟨i, p, q, a1, a3, a4, a5, fun hw => by have := a6 hw; rwa [kd_cp] at this, a7⟩
end Go.Proofs.Ytmbknidfkddpfaa
