/- The pure machine, part 24 (ahead of 12): orders of a list, heaps for ranges over maps. -/
import Derived.Test.YtmbknidfkddpfaaPmTwentyThree
import Derived.Maps.RangeRun
set_option linter.unusedVariables false
set_option linter.unusedSimpArgs false
namespace Go.Proofs.Ytmbknidfkddpfaa.PM
open Go.MapKept (Stamped)
open Go.ChangeMaps (setBlock)

/-! ### All orders of a list -/
def ins {α : Type} (x : α) : List α → List (List α)
  | [] => [[x]]
  | y :: ys => (x :: y :: ys) :: (ins x ys).map (y :: ·)
def perms {α : Type} : List α → List (List α)
  | [] => [[]]
  | x :: xs => (perms xs).flatMap (ins x)
theorem mem_ins {α : Type} {x : α} : ∀ {l o : List α}, o ∈ ins x l ↔ ∃ a b, l = a ++ b ∧ o = a ++ x :: b
  | [], o => by
    simp only [ins, List.mem_singleton]
    constructor
    · rintro rfl; exact ⟨[], [], rfl, rfl⟩
    · rintro ⟨a, b, h1, h2⟩
      have : a = [] ∧ b = [] := by simpa using h1.symm
      rw [h2, this.1, this.2]; rfl
  | y :: ys, o => by
    simp only [ins, List.mem_cons, List.mem_map]
    constructor
    · rintro (rfl | ⟨o', h, rfl⟩)
      · exact ⟨[], y :: ys, rfl, rfl⟩
      · obtain ⟨a, b, h1, h2⟩ := mem_ins.1 h
        exact ⟨y :: a, b, by rw [h1]; rfl, by rw [h2]; rfl⟩
    · rintro ⟨a, b, h1, h2⟩
      cases a with
      | nil => simp only [List.nil_append] at h1 h2; subst h1; exact .inl h2
      | cons z a =>
        simp only [List.cons_append, List.cons.injEq] at h1
        obtain ⟨rfl, h1⟩ := h1
        exact .inr ⟨a ++ x :: b, mem_ins.2 ⟨a, b, h1, rfl⟩, h2.symm⟩
theorem mem_perms {α : Type} : ∀ {l o : List α}, o ∈ perms l ↔ o.Perm l
  | [], o => by simp [perms]
  | x :: xs, o => by
    simp only [perms, List.mem_flatMap]
    constructor
    · rintro ⟨p, hp, ho⟩
      obtain ⟨a, b, rfl, rfl⟩ := mem_ins.1 ho
      exact List.perm_middle.trans ((mem_perms.1 hp).cons x)
    · intro h
      have hx : x ∈ o := h.mem_iff.2 (by simp)
      obtain ⟨a, b, rfl⟩ := List.append_of_mem hx
      exact ⟨a ++ b, mem_perms.2 ((List.perm_middle.symm.trans h).cons_inv), mem_ins.2 ⟨a, b, rfl, rfl⟩⟩

/-! ### Whether two ends are one -/
def beqEnv : Env → Env → Bool
  | [], [] => true
  | (i, x) :: r, (j, y) :: s => i == j && (PV.beq x y && beqEnv r s)
  | _, _ => false
theorem beqEnv_eq : ∀ {a b : Env}, beqEnv a b = true → a = b
  | [], [], _ => rfl
  | [], _ :: _, h => by simp [beqEnv] at h
  | _ :: _, [], h => by simp [beqEnv] at h
  | (i, x) :: r, (j, y) :: s, h => by
    simp only [beqEnv, Bool.and_eq_true, beq_iff_eq] at h
    rw [h.1, PV.beq_eq _ _ h.2.1, beqEnv_eq h.2.2]
theorem beqEnv_refl : ∀ a : Env, beqEnv a a = true
  | [] => rfl
  | (i, x) :: r => by simp [beqEnv, PV.beq_refl, beqEnv_refl r]
theorem beqL_eq : ∀ {a b : List PV}, PV.beqL a b = true → a = b := fun {a b} h => PV.beqL_eq a b h
theorem beqL_refl : ∀ a : List PV, PV.beqL a a = true := fun a => PV.beqL_refl a
def beqMp (a b : Option Mp) : Bool := match a, b with
  | none, none => true
  | some m, some m' => m.kn == m'.kn && (PV.beqL m.ks m'.ks && PV.beqL m.vs m'.vs)
  | _, _ => false
theorem beqMp_eq {a b : Option Mp} (h : beqMp a b = true) : a = b := by
  unfold beqMp at h
  split at h
  · rfl
  · rename_i m m'
    simp only [Bool.and_eq_true, beq_iff_eq] at h
    obtain ⟨kn, ks, vs⟩ := m
    obtain ⟨kn', ks', vs'⟩ := m'
    simp only at h
    rw [h.1, beqL_eq h.2.1, beqL_eq h.2.2]
  · cases h
theorem beqMp_refl (a : Option Mp) : beqMp a a = true := by
  cases a <;> simp [beqMp, beqL_refl]
def beqHp : Hp → Hp → Bool
  | [], [] => true
  | B :: r, B' :: s => B.e == B'.e && (B.gen == B'.gen && (PV.beqL B.xs B'.xs && (beqMp B.mp B'.mp && beqHp r s)))
  | _, _ => false
theorem beqHp_eq : ∀ {a b : Hp}, beqHp a b = true → a = b
  | [], [], _ => rfl
  | [], _ :: _, h => by simp [beqHp] at h
  | _ :: _, [], h => by simp [beqHp] at h
  | ⟨e, g, x, m⟩ :: r, ⟨e', g', x', m'⟩ :: s, h => by
    simp only [beqHp, Bool.and_eq_true, beq_iff_eq] at h
    obtain ⟨h1, h2, h3, h4, h5⟩ := h
    rw [h1, h2, beqL_eq h3, beqMp_eq h4, beqHp_eq h5]
theorem beqHp_refl : ∀ a : Hp, beqHp a a = true
  | [] => rfl
  | B :: r => by simp [beqHp, beqL_refl, beqMp_refl, beqHp_refl r]

/-! ### What is ranged over -/
/-- A block that nothing reaches. -/
abbrev dead : Blk := ⟨0, 1, [.undef], none⟩
def isDead (o : Option Blk) : Bool := match o with | some ⟨0, 1, [.undef], none⟩ => true | _ => false
theorem isDead_eq {o : Option Blk} (h : isDead o = true) : o = some dead := by
  unfold isDead at h
  split at h
  · rfl
  · cases h
def mopen (v : PV) (H : Hp) : Option (List (PV × PV) × Hp) := match v with
  | .nilmap => some ([], H)
  | .fmap _ _ ks vs => some (ks.zip vs, H)
  | .mmap b => (match H[b]? with | some ⟨_, 0, [], some m⟩ => some (m.ks.zip m.vs, H.set b dead) | _ => none)
  | _ => none
def mclose (v : PV) (H0 H : Hp) : Option Hp := match v with
  | .mmap b => if isDead H[b]? then (H0[b]?).map fun B => H.set b B else none
  | _ => some H

section
variable {P : Program}
theorem HRel.kill {K : KW} {H : Hp} (hH : HRel K H) {b e : Nat} {m : Mp} (hb : H[b]? = some ⟨e, 0, [], some m⟩) : HRel K (H.set b dead) ∧ Ext K H K (H.set b dead) ∧ ∀ g n, K.μ b 0 = some (g, n) → ¬ Live K (H.set b dead) g := by
  have hlt := (List.getElem?_eq_some_iff.1 hb).1
  have hg : ∀ i B, (H.set b dead)[i]? = some B → (i = b ∧ B = dead) ∨ (i ≠ b ∧ H[i]? = some B) := by
    intro i B h
    rw [List.getElem?_set] at h
    split at h
    · rename_i e
      first | rw [if_pos hlt] at h | skip
      exact .inl ⟨e.symm, (Option.some.inj h).symm⟩
    · rename_i e
      exact .inr ⟨fun q => e q.symm, h⟩
  have hf1 : ∀ gen, 1 ≤ gen → K.μ b gen = none := fun gen hgen => hH.fresh b gen (fun B hB => by
    rw [hb] at hB
    have := Option.some.inj hB
    subst this
    exact hgen)
  have hR : HRel K (H.set b dead) := by
    refine ⟨?_, ?_, ?_, hH.lt⟩
    · intro i B hi
      rcases hg i B hi with ⟨rfl, rfl⟩ | ⟨_, h⟩
      · exact .inl ⟨.inr rfl, rfl, hf1 1 (Nat.le_refl _)⟩
      · exact hH.blk i B h
    · intro i j B B' g n n' hi hj hm hm'
      rcases hg i B hi with ⟨rfl, rfl⟩ | ⟨_, hi⟩
      · rw [hf1 _ (Nat.le_refl _)] at hm; cases hm
      rcases hg j B' hj with ⟨rfl, rfl⟩ | ⟨_, hj⟩
      · rw [hf1 _ (Nat.le_refl _)] at hm'; cases hm'
      exact hH.inj i j B B' g n n' hi hj hm hm'
    · intro i gen hgen
      by_cases e : i = b
      · subst e
        have := hgen dead (by rw [List.getElem?_set_self hlt])
        exact hf1 gen (Nat.le_of_lt this)
      · exact hH.fresh i gen (fun B hB => hgen B (by rw [List.getElem?_set_ne (fun q => e q.symm)]; exact hB))
  have hlive : ∀ g, Live K (H.set b dead) g → Live K H g ∧ ∃ i B n, i ≠ b ∧ H[i]? = some B ∧ K.μ i B.gen = some (g, n) := by
    rintro g ⟨i, B, n, hi, hm⟩
    rcases hg i B hi with ⟨rfl, rfl⟩ | ⟨hne, hi⟩
    · rw [hf1 _ (Nat.le_refl _)] at hm; cases hm
    · exact ⟨⟨i, B, n, hi, hm⟩, i, B, n, hne, hi, hm⟩
  refine ⟨hR, ⟨KW.Le.refl K, fun _ _ _ => rfl, fun g h => .inl (hlive g h).1, fun _ h => .inl h, fun _ h => h⟩, ?_⟩
  intro g n hm hl
  obtain ⟨_, i, B, n', hne, hi, hm'⟩ := hlive g hl
  exact hne (hH.inj i b B _ g n' n hi hb hm' hm)
theorem HRel.revive {K0 K : KW} {H0 H : Hp} (hH0 : HRel K0 H0) {b e : Nat} {m : Mp} (hb0 : H0[b]? = some ⟨e, 0, [], some m⟩) (hX : Ext K0 (H0.set b dead) K H) (hH : HRel K H) (hb : H[b]? = some dead) :
    HRel K (H.set b ⟨e, 0, [], some m⟩) ∧ Ext K0 H0 K (H.set b ⟨e, 0, [], some m⟩) := by
  have hlt := (List.getElem?_eq_some_iff.1 hb).1
  obtain ⟨hk1, hk2, hk3⟩ := hH0.kill hb0
  have hg : ∀ i B, (H.set b ⟨e, 0, [], some m⟩)[i]? = some B → (i = b ∧ B = ⟨e, 0, [], some m⟩) ∨ (i ≠ b ∧ H[i]? = some B) := by
    intro i B h
    rw [List.getElem?_set] at h
    split at h
    · rename_i e
      first | rw [if_pos hlt] at h | skip
      exact .inl ⟨e.symm, (Option.some.inj h).symm⟩
    · rename_i e
      exact .inr ⟨fun q => e q.symm, h⟩
  obtain ⟨m', g, es, clock, hxs, hmp, _, hmu, hh, hz, hy, hmi⟩ : ∃ (m' : Mp) (g : Nat) (es : Array MapEntry) (clock : Nat), True ∧ some m = some m' ∧ True ∧ K0.μ b 0 = some (g, 0) ∧ K0.w.heap[g]? = some (.map es clock) ∧ ¬ K0.Z g ∧ ¬ K0.Y g ∧ MapIs K0 m' es clock := by
    rcases hH0.blk b _ hb0 with ⟨_, h, _⟩ | ⟨m', g, es, cl, _, hp, _, hm, hh, hz, hy, hmi⟩ | ⟨_, _, h, _⟩
    · cases h
    · exact ⟨m', g, es, cl, trivial, hp, trivial, hm, hh, hz, hy, hmi⟩
    · cases h
  obtain rfl := Option.some.inj hmp
  have hgl := (Array.getElem?_eq_some_iff.1 hh).1
  have hnl : ¬ Live K0 (H0.set b dead) g := hk3 g 0 hmu
  have hheap : K.w.heap[g]? = some (.map es clock) := (hX.frame g hgl hnl).trans hh
  have hmuK : K.μ b 0 = some (g, 0) := hX.le.mu _ _ _ hmu
  have hdead : K.μ b 1 = none := by
    rcases hH.blk b _ hb with ⟨_, _, h⟩ | ⟨_, _, _, _, _, h, _⟩ | ⟨g', cur, _, h, hc, hz', hy', hl, hr, h1⟩
    · exact h
    · cases h
    · simp [PV.one] at h1
  have hlive : ∀ g', Live K (H.set b ⟨e, 0, [], some m⟩) g' → Live K H g' ∨ g' = g := by
    rintro g' ⟨i, B, n, hi, hm⟩
    rcases hg i B hi with ⟨rfl, rfl⟩ | ⟨hne, hi⟩
    · rw [hmuK] at hm
      exact .inr (by have := Option.some.inj hm; rw [Prod.mk.injEq] at this; exact this.1.symm)
    · exact .inl ⟨i, B, n, hi, hm⟩
  have hlg : Live K0 H0 g := ⟨b, _, 0, hb0, hmu⟩
  have hgK : ¬ Live K H g := fun q => (hX.live g q).elim hnl (fun q => by omega)
  have hzK : ¬ K.Z g := fun q => (hX.zb g q).elim hz (fun q => by omega)
  have hyK : ¬ K.Y g := fun q => hy (hX.yb g q)
  refine ⟨⟨?_, ?_, ?_, hH.lt⟩, hX.le, fun g' hg' hl => hX.frame g' hg' (fun q => hl ?_), fun g' h => ?_, hX.zb, hX.yb⟩
  · intro i B hi
    rcases hg i B hi with ⟨rfl, rfl⟩ | ⟨_, h⟩
    · exact .inr <| .inl ⟨m, g, es, clock, rfl, rfl, rfl, hmuK, hheap, hzK, hyK, hmi.mono hX.le⟩
    · exact hH.blk i B h
  · intro i j B B' g1 n n' hi hj hm hm'
    rcases hg i B hi with ⟨rfl, rfl⟩ | ⟨hni, hi2⟩
    · rcases hg j B' hj with ⟨rfl, rfl⟩ | ⟨hnj, hj⟩
      · rfl
      · rw [hmuK] at hm
        have := Option.some.inj hm
        rw [Prod.mk.injEq] at this
        exact absurd ⟨j, B', n', hj, by rw [hm', this.1]⟩ hgK
    · rcases hg j B' hj with ⟨rfl, rfl⟩ | ⟨hnj, hj⟩
      · rw [hmuK] at hm'
        have := Option.some.inj hm'
        rw [Prod.mk.injEq] at this
        exact absurd ⟨i, B, n, hi2, by rw [hm, this.1]⟩ hgK
      · exact hH.inj i j B B' g1 n n' hi2 hj hm hm'
  · intro i gen hgen
    by_cases e1 : i = b
    · subst e1
      have h0 : 0 < gen := hgen ⟨e, 0, [], some m⟩ (by rw [List.getElem?_set_self hlt])
      by_cases e2 : gen = 1
      · rw [e2]; exact hdead
      · exact hH.fresh i gen (fun B hB => by rw [hb] at hB; have := Option.some.inj hB; subst this; show 1 < gen; omega)
    · exact hH.fresh i gen (fun B hB => hgen B (by rw [List.getElem?_set_ne (fun q => e1 q.symm)]; exact hB))
  · rcases hk2.live g' q with q | q
    · exact q
    · exact absurd q (by omega)
  · rcases hlive g' h with q | rfl
    · rcases hX.live g' q with q | q
      · rcases hk2.live g' q with q | q
        · exact .inl q
        · exact .inr q
      · exact .inr q
    · exact .inl hlg
end
end Go.Proofs.Ytmbknidfkddpfaa.PM
