/- The pure machine, part 30: more of maps. -/
import Derived.Test.YtiaeckidlmoohaaGreatPmTwentyNine
set_option linter.unusedVariables false
set_option linter.unusedSimpArgs false
namespace Go.Proofs.YtiaeckidlmoohaaGreat.PM
theorem mput_vs {m : Mp} {x v w : PV} (h : w ∈ (mput m x v).vs) : w = v ∨ w ∈ m.vs := by
  unfold mput at h
  split at h
  · exact (List.mem_or_eq_of_mem_set h).symm
  · simp only [List.mem_append, List.mem_cons] at h
    rcases h with h | h | h
    · exact .inr (List.mem_of_mem_take h)
    · exact .inl h
    · exact .inr (List.mem_of_mem_drop h)
theorem noRefL_iff {k : Nat} : ∀ {xs : List PV}, PV.noRefL k xs = true ↔ ∀ x ∈ xs, x.noRef k = true
  | [] => by simp [PV.noRefL]
  | x :: xs => by
    have := noRefL_iff (k := k) (xs := xs)
    simp [this, PV.noRefL]
@[simp] theorem nr_mpB (k : Nat) (m : Mp) : Blk.nr k (mpB m) = PV.noRefL k m.vs := by simp [Blk.nr, PV.noRefL]
@[simp] theorem nr_map (k : Nat) (m : Mp) : Blk.nr k ⟨0, 0, [], some m⟩ = PV.noRefL k m.vs := by simp [Blk.nr, PV.noRefL]
structure MN (m : Mp) : Prop extends MW m where
  nd : m.ks.Nodup
theorem MN.empty (kn : Option Nat) : MN ⟨kn, [], []⟩ := ⟨.empty kn, by simp⟩
theorem MN.put {m : Mp} (h : MN m) {x : PV} (hx : keyB m.kn x = true) (v : PV) : MN (mput m x v) := by
  refine ⟨h.toMW.put hx v, ?_⟩
  unfold mput
  split
  · exact h.nd
  · rename_i hj
    have hn := mix_none hx h.key hj
    dsimp only
    have hp : (m.ks.take (mpos m.ks x) ++ x :: m.ks.drop (mpos m.ks x)).Perm (x :: m.ks) := by
      refine List.perm_middle.trans ?_
      rw [List.take_append_drop]
    exact hp.nodup_iff.2 (List.nodup_cons.2 ⟨hn, h.nd⟩)
theorem mix_at {kn : Option Nat} : ∀ {ks : List PV} {j : Nat} {k : PV}, (∀ k ∈ ks, keyB kn k = true) → ks.Nodup → ks[j]? = some k → mix ks k = some j
  | [], j, k, _, _, h => by simp at h
  | y :: ks, 0, k, hk, _, h => by
    simp only [List.getElem?_cons_zero, Option.some.injEq] at h
    subst h
    rw [mix, if_pos ((keq_iff (hk y (by simp)) (hk y (by simp))).2 rfl)]
  | y :: ks, j + 1, k, hk, hn, h => by
    simp only [List.getElem?_cons_succ] at h
    have hmem : k ∈ ks := List.mem_of_getElem? h
    rw [List.nodup_cons] at hn
    have hne : ¬ keq k y = true := fun e => by
      have := (keq_iff (hk k (by simp [hmem])) (hk y (by simp))).1 e
      subst this
      exact hn.1 hmem
    rw [mix, if_neg hne, mix_at (kn := kn) (fun k hk' => hk k (by simp [hk'])) hn.2 h]
    rfl
theorem MN.at {m : Mp} (h : MN m) {j : Nat} {k v : PV} (hk : m.ks[j]? = some k) (hv : m.vs[j]? = some v) : mfind m k = some v := by
  unfold mfind
  rw [mix_at h.key h.nd hk]
  exact hv
theorem MN.val {m : Mp} (h : MN m) {v : PV} (hv : v ∈ m.vs) : ∃ k ∈ m.ks, mfind m k = some v := by
  obtain ⟨j, hj, rfl⟩ := List.getElem_of_mem hv
  have hl := h.len
  have hj' : j < m.ks.length := by omega
  exact ⟨m.ks[j], List.getElem_mem hj', h.at (List.getElem?_eq_getElem hj') (List.getElem?_eq_getElem hj)⟩
theorem mapO_all {f : PV → Option PV} {φ : PV → PV} : ∀ {vs : List PV}, (∀ v ∈ vs, f v = some (φ v)) → mapO f vs = some (vs.map φ)
  | [], _ => by simp [mapO]
  | v :: vs, h => by
    have h1 := h v (by simp)
    have h2 := mapO_all (f := f) (φ := φ) (vs := vs) fun w hw => h w (by simp [hw])
    simp only [mapO, h1, h2, Option.bind_some, Option.map_some, List.map_cons]
theorem cleanLB_all : ∀ {vs : List PV}, (∀ v ∈ vs, v.cleanB = true) → PV.cleanLB vs = true
  | [], _ => by simp only [PV.cleanLB]
  | v :: vs, h => by simp only [PV.cleanLB, h v (by simp), cleanLB_all (vs := vs) fun w hw => h w (by simp [hw]), Bool.and_self]
theorem frz_mmap {H : Hp} {nl : Nl} {n b : Nat} {m : Mp} (hb : H[b]? = some (mpB m)) (φ : PV → PV) (h : ∀ v ∈ m.vs, frz H nl n v = some (φ v) ∧ (φ v).cleanB = true) :
    frz H nl (n + 1) (.mmap b) = some (.fmap (nl == .bor) m.kn m.ks (m.vs.map φ)) := by
  simp only [frz, hb]
  rw [if_pos trivial, mapO_all (fun v hv => (h v hv).1), Option.bind_some, if_pos]
  rw [Bool.or_eq_true]
  refine .inr (cleanLB_all fun w hw => ?_)
  obtain ⟨v, hv, rfl⟩ := List.mem_map.1 hw
  exact (h v hv).2
theorem mfind_map (kn : Option Nat) (ks vs : List PV) (φ : PV → PV) (x : PV) : mfind ⟨kn, ks, vs.map φ⟩ x = (mfind ⟨kn, ks, vs⟩ x).map φ := by
  unfold mfind
  dsimp only
  cases mix ks x with
  | none => rfl
  | some j => simp
end Go.Proofs.YtiaeckidlmoohaaGreat.PM
