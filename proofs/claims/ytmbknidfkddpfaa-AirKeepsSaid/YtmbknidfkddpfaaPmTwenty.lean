/- The pure machine, part 20: pieces of code by themselves. -/
import Derived.Test.YtmbknidfkddpfaaPmNineteen
set_option linter.unusedVariables false
set_option linter.unusedSimpArgs false
namespace Go.Proofs.Ytmbknidfkddpfaa.PM
section
variable {T : Table} {k : List Fr} {e : Env} {h : Hp} {Q : Post}
/-- A piece of code by itself: it ends normally, and R holds. -/
theorem G_step {p : PCode} (R : Env → Hp → Prop) (h1 : G T [.code p, .stop R] .normal e h (fun _ _ _ => False)) (hk : ∀ e' h', R e' h' → G T k .normal e' h' Q) : G T (.code p :: k) .normal e h Q := by
  rw [G_code] at h1 ⊢
  obtain ⟨⟨x, e1, h2⟩, hp, hg⟩ := h1
  refine ⟨_, hp, ?_⟩
  cases x
  · rw [G_stop_normal] at hg
    exact hk _ _ hg
  · rw [G_stop_exit, G_nil] at hg; exact hg.elim
  · rw [G_stop_ret, G_nil] at hg; exact hg.elim
/-- Two ways that come together. -/
theorem G_join {t : Bool} {a b : PCode} (R : Env → Hp → Prop) (h1 : t = true → G T [.code a, .stop R] .normal e h (fun _ _ _ => False)) (h2 : t = false → G T [.code b, .stop R] .normal e h (fun _ _ _ => False)) (hk : ∀ e' h', R e' h' → G T k .normal e' h' Q) :
    G T (.br (.bool t) a b :: k) .normal e h Q := by
  cases t
  · rw [G_br_false]; exact G_step R (h2 rfl) hk
  · rw [G_br_true]; exact G_step R (h1 rfl) hk
theorem G_splice (R : Env → Hp → Prop) (hk : ∀ e' h', R e' h' → G T k .normal e' h' Q) : ∀ (ks : List Fr) (x : PX) (e : Env) (h : Hp), G T (ks ++ [.stop R]) x e h (fun _ _ _ => False) → G T (ks ++ k) x e h Q
  | [], x, e, h, hg => by
    cases x
    · rw [List.nil_append, G_stop_normal] at hg
      exact hk _ _ hg
    · rw [List.nil_append, G_stop_exit, G_nil] at hg; exact hg.elim
    · rw [List.nil_append, G_stop_ret, G_nil] at hg; exact hg.elim
  | f :: ks, x, e, h, hg => by
    rw [List.cons_append] at hg ⊢
    cases f <;> cases x <;> simp only [G, frX, G_trm] at hg ⊢
    all_goals
      first
        | exact hg
        | exact G_splice R hk ks _ _ _ hg
        | exact ⟨hg.1, G_splice R hk ks _ _ _ hg.2⟩
        | (obtain ⟨q, hq, hg⟩ := hg; exact ⟨q, hq, G_splice R hk ks _ _ _ hg⟩)
/-- Two frames by themselves. -/
theorem G_splice2 {f1 f2 : Fr} (R : Env → Hp → Prop) (h1 : G T [f1, f2, .stop R] .normal e h (fun _ _ _ => False)) (hk : ∀ e' h', R e' h' → G T k .normal e' h' Q) : G T (f1 :: f2 :: k) .normal e h Q :=
  G_splice R hk [f1, f2] .normal e h h1
end
end Go.Proofs.Ytmbknidfkddpfaa.PM
