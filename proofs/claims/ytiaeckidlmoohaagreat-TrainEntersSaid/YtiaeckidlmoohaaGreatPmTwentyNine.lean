/- The pure machine, part 29: maps whose content is told by what is found. -/
import Derived.Test.YtiaeckidlmoohaaGreatPmTwentyEight
set_option linter.unusedVariables false
set_option linter.unusedSimpArgs false
namespace Go.Proofs.YtiaeckidlmoohaaGreat.PM
structure MW (m : Mp) : Prop where
  len : m.ks.length = m.vs.length
  key : ∀ k ∈ m.ks, keyB m.kn k = true
def fnd : List PV → List PV → PV → Option PV
  | k :: ks, v :: vs, y => if keq y k then some v else fnd ks vs y
  | _, _, _ => none
theorem mix_fnd : ∀ {ks vs : List PV} {y : PV}, ks.length = vs.length → ((mix ks y).bind fun j => vs[j]?) = fnd ks vs y
  | [], [], y, _ => rfl
  | k :: ks, v :: vs, y, h => by
    rw [mix, fnd]
    have := mix_fnd (ks := ks) (vs := vs) (y := y) (by simpa using h)
    rw [← this]
    cases keq y k
    · cases mix ks y <;> simp
    · rfl
  | [], v :: vs, y, h => by simp at h
  | k :: ks, [], y, h => by simp at h
theorem mfind_fnd {m : Mp} (h : m.ks.length = m.vs.length) (y : PV) : mfind m y = fnd m.ks m.vs y := mix_fnd h
theorem fnd_app : ∀ {k1 v1 k2 v2 : List PV} {y : PV}, k1.length = v1.length → fnd (k1 ++ k2) (v1 ++ v2) y = (fnd k1 v1 y).or (fnd k2 v2 y)
  | [], [], k2, v2, y, _ => by simp [fnd]
  | k :: k1, v :: v1, k2, v2, y, h => by
    simp only [List.cons_append, fnd]
    split
    · rfl
    · exact fnd_app (by simpa using h)
  | [], v :: v1, k2, v2, y, h => by simp at h
  | k :: k1, [], k2, v2, y, h => by simp at h
theorem fnd_none_of_mix : ∀ {ks vs : List PV} {y : PV}, ks.length = vs.length → mix ks y = none → fnd ks vs y = none := fun h hm => by
  rw [← mix_fnd h, hm]; rfl
theorem fnd_set_eq : ∀ {ks vs : List PV} {j : Nat} {x v : PV}, ks.length = vs.length → mix ks x = some j → fnd ks (vs.set j v) x = some v
  | [], _, _, _, _, _, h => by simp [mix] at h
  | k :: ks, [], _, _, _, h, _ => by simp at h
  | k :: ks, w :: vs, j, x, v, hl, h => by
    rw [mix] at h
    split at h
    · rename_i hk
      simp only [Option.some.injEq] at h
      subst h
      simp [fnd, hk]
    · rename_i hk
      simp only [Option.map_eq_some_iff] at h
      obtain ⟨i, hi, rfl⟩ := h
      simp only [List.set_cons_succ, fnd, hk, if_false, Bool.false_eq_true]
      exact fnd_set_eq (by simpa using hl) hi
theorem fnd_set_ne {kn : Option Nat} {x y : PV} (hx : keyB kn x = true) (hy : keyB kn y = true) (hne : x ≠ y) : ∀ {ks vs : List PV} {j : Nat} {v : PV}, (∀ k ∈ ks, keyB kn k = true) → ks.length = vs.length → mix ks x = some j → fnd ks (vs.set j v) y = fnd ks vs y
  | [], _, _, _, _, _, h => by simp [mix] at h
  | k :: ks, [], _, _, _, h, _ => by simp at h
  | k :: ks, w :: vs, j, v, hks, hl, h => by
    rw [mix] at h
    split at h
    · rename_i hk
      simp only [Option.some.injEq] at h
      subst h
      have : x = k := (keq_iff hx (hks k (by simp))).1 hk
      subst this
      have : keq y x = false := by
        cases c : keq y x
        · rfl
        · exact absurd ((keq_iff hy hx).1 c).symm hne
      simp [fnd, this]
    · rename_i hk
      simp only [Option.map_eq_some_iff] at h
      obtain ⟨i, hi, rfl⟩ := h
      simp only [List.set_cons_succ, fnd]
      split
      · rfl
      · exact fnd_set_ne hx hy hne (fun k hk => hks k (by simp [hk])) (by simpa using hl) hi
theorem MW.put {m : Mp} (h : MW m) {x : PV} (hx : keyB m.kn x = true) (v : PV) : MW (mput m x v) := by
  unfold mput
  split
  · exact ⟨by simpa using h.len, h.key⟩
  · refine ⟨by have := h.len; simp; omega, fun k hk => ?_⟩
    simp only [List.mem_append, List.mem_cons] at hk
    rcases hk with hk | rfl | hk
    · exact h.key k (List.mem_of_mem_take hk)
    · exact hx
    · exact h.key k (List.mem_of_mem_drop hk)
@[simp] theorem mput_kn (m : Mp) (x v : PV) : (mput m x v).kn = m.kn := by unfold mput; split <;> rfl
theorem mfind_put_eq {m : Mp} (h : MW m) {x : PV} (hx : keyB m.kn x = true) (v : PV) : mfind (mput m x v) x = some v := by
  rw [mfind_fnd (h.put hx v).len]
  unfold mput
  split
  · rename_i j hj
    exact fnd_set_eq h.len hj
  · rename_i hj
    dsimp only
    have hl := h.len
    rw [fnd_app (by simp; omega)]
    have h0 := fnd_none_of_mix hl hj
    have h1 : fnd m.ks m.vs x = (fnd (m.ks.take (mpos m.ks x)) (m.vs.take (mpos m.ks x)) x).or (fnd (m.ks.drop (mpos m.ks x)) (m.vs.drop (mpos m.ks x)) x) := by
      rw [← fnd_app (by simp; omega), List.take_append_drop, List.take_append_drop]
    rw [h0] at h1
    have h2 : fnd (m.ks.take (mpos m.ks x)) (m.vs.take (mpos m.ks x)) x = none := by
      cases c : fnd (m.ks.take (mpos m.ks x)) (m.vs.take (mpos m.ks x)) x
      · rfl
      · rw [c] at h1; simp at h1
    rw [h2]
    simp [fnd, (keq_iff hx hx).2 rfl]
theorem mfind_put_ne {m : Mp} (h : MW m) {x y : PV} (hx : keyB m.kn x = true) (hy : keyB m.kn y = true) (hne : x ≠ y) (v : PV) : mfind (mput m x v) y = mfind m y := by
  rw [mfind_fnd (h.put hx v).len, mfind_fnd h.len]
  unfold mput
  split
  · rename_i j hj
    exact fnd_set_ne hx hy hne h.key h.len hj
  · rename_i hj
    dsimp only
    have hl := h.len
    rw [fnd_app (by simp; omega)]
    have h1 : fnd m.ks m.vs y = (fnd (m.ks.take (mpos m.ks x)) (m.vs.take (mpos m.ks x)) y).or (fnd (m.ks.drop (mpos m.ks x)) (m.vs.drop (mpos m.ks x)) y) := by
      rw [← fnd_app (by simp; omega), List.take_append_drop, List.take_append_drop]
    have hk : keq y x = false := by
      cases c : keq y x
      · rfl
      · exact absurd ((keq_iff hy hx).1 c).symm hne
    rw [h1]
    simp [fnd, hk]
theorem mix_isSome {m : Mp} (h : MW m) (x : PV) : (mix m.ks x).isSome = (mfind m x).isSome := by
  unfold mfind
  cases c : mix m.ks x with
  | none => rfl
  | some j =>
    have : j < m.ks.length := by
      have : ∀ (ks : List PV) (j : Nat), mix ks x = some j → j < ks.length := by
        intro ks
        induction ks with
        | nil => intro j h; simp [mix] at h
        | cons k ks ih =>
          intro j h
          rw [mix] at h
          split at h
          · simp only [Option.some.injEq] at h; subst h; simp
          · simp only [Option.map_eq_some_iff] at h
            obtain ⟨i, hi, rfl⟩ := h
            have := ih i hi
            simp; omega
      exact this _ _ c
    have hl := h.len
    have : j < m.vs.length := by omega
    simp [this]
theorem MW.empty (kn : Option Nat) : MW ⟨kn, [], []⟩ := ⟨rfl, fun _ h => by simp at h⟩
@[simp] theorem mfind_empty (kn : Option Nat) (x : PV) : mfind ⟨kn, [], []⟩ x = none := rfl
abbrev mpB (m : Mp) : Blk := ⟨0, 0, [], some m⟩
theorem evMlk_mmap {kn : Option Nat} {z : PV} {cok : Bool} {b : Nat} {x : PV} {H : Hp} {m : Mp} (hx : keyB kn x = true) (hb : H[b]? = some (mpB m)) (hn : m.kn = kn) :
    evMlk kn z cok (.mmap b) x H = some (if cok then .tup [(mfind m x).getD z, .bool (mfind m x).isSome] else (mfind m x).getD z) := by
  unfold evMlk mapOf
  rw [if_pos hx]
  simp only [hb]
  simp [hn]
theorem evMlk_fmap {kn : Option Nat} {z : PV} {cok : Bool} {b : Bool} {x : PV} {H : Hp} {ks vs : List PV} (hx : keyB kn x = true) :
    evMlk kn z cok (.fmap b kn ks vs) x H = some (if cok then .tup [(mfind ⟨kn, ks, vs⟩ x).getD z, .bool (mfind ⟨kn, ks, vs⟩ x).isSome] else (mfind ⟨kn, ks, vs⟩ x).getD z) := by
  unfold evMlk mapOf
  rw [if_pos hx]
  simp
theorem evMup_mmap {kn : Option Nat} {b : Nat} {x v : PV} {H : Hp} {m : Mp} (hx : keyB kn x = true) (hb : H[b]? = some (mpB m)) (hn : m.kn = kn) :
    evMup kn (.mmap b) x v H = some (H.set b (mpB (mput m x v))) := by
  unfold evMup mapAt mapOf
  rw [if_pos hx]
  simp only [hb]
  simp [hn, setMp]
theorem evMpe_some {kn : Option Nat} {b : Nat} {x z v : PV} {H : Hp} {m : Mp} (hx : keyB kn x = true) (hb : H[b]? = some (mpB m)) (hn : m.kn = kn) (hv : mfind m x = some v) :
    evMpe kn z (.mmap b) x H = some (.tup [v, .stp b x], H) := by
  unfold evMpe mapAt mapOf
  rw [if_pos hx]
  simp only [hb]
  simp [hn, hv]
theorem evMpe_none {kn : Option Nat} {b : Nat} {x z : PV} {H : Hp} {m : Mp} (hx : keyB kn x = true) (hb : H[b]? = some (mpB m)) (hn : m.kn = kn) (hv : mfind m x = none) :
    evMpe kn z (.mmap b) x H = some (.tup [z, .stp b x], H.set b (mpB (mput m x z))) := by
  unfold evMpe mapAt mapOf
  rw [if_pos hx]
  simp only [hb]
  simp [hn, hv, setMp]
theorem evEst_mmap {kn : Option Nat} {b : Nat} {x v : PV} {H : Hp} {m : Mp} (hx : keyB kn x = true) (hb : H[b]? = some (mpB m)) (hn : m.kn = kn) (hw : MW m) (hs : (mfind m x).isSome = true) :
    evEst kn (.mmap b) (.stp b x) v H = some (H.set b (mpB (mput m x v))) := by
  unfold evEst mapAt mapOf
  simp only [hb]
  have := (mix_isSome hw x).trans hs
  simp [hn, hx, setMp, this]
@[simp] theorem pureB_agg (ys : List PV) : PV.pureB (.agg ys) = PV.pureLB ys := by rw [PV.pureB]
@[simp] theorem pureB_tup (ys : List PV) : PV.pureB (.tup ys) = PV.pureLB ys := by rw [PV.pureB]
@[simp] theorem keyB_i (a : Int) : keyB none (.int .i64 a) = true := rfl
@[simp] theorem keyB_2 (a b : Int) : keyB (some 2) (.agg [.int .i64 a, .int .i64 b]) = true := rfl
@[simp] theorem keyB_3 (a b c : Int) : keyB (some 3) (.agg [.int .i64 a, .int .i64 b, .int .i64 c]) = true := rfl
end Go.Proofs.YtiaeckidlmoohaaGreat.PM
