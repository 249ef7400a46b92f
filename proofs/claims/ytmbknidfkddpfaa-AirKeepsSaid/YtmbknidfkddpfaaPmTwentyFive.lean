/- The pure machine, part 25 (behind 19): runs of ranges over maps. -/
import Derived.Test.YtmbknidfkddpfaaPmTwentyOne
set_option linter.unusedVariables false
set_option linter.unusedSimpArgs false
namespace Go.Proofs.Ytmbknidfkddpfaa.PM
section
variable {T : Table} {k : List Fr} {e : Env} {h : Hp} {Q : Post}

/-- What holds of each order. -/
def MQ (T : Table) (M : Mr) (a b : PCode) (n : Nat) (e1 : Env) (H1 H2 : Hp) (o : List (PV × PV)) (r : PX × Env × Hp) : Prop := mfull T (X T) M a b n e1 H1 H2 o = some r
theorem G_mrng {M : Mr} {a b : PCode} (r : PX × Env × Hp) (hz : Zr T M.rs e h fun e1 H1 => ∃ E H2, mopen (ev e1 M.m) H1 = some (E, H2) ∧ ∀ o : List (PV × PV), o.Perm E → MQ T M a b h.length e1 H1 H2 o r) (hk : G T k r.1 r.2.1 r.2.2 Q) :
    G T (.code (.mrng M a b) :: k) .normal e h Q := by
  obtain ⟨q, h1, E, H2, h2, h3⟩ := hz
  rw [G_code']
  exact ⟨r, mall_iff.2 ⟨q, (E, H2), h1, h2, fun o ho => h3 o (mem_perms.1 ho)⟩, hk⟩
/-- A round, run. -/
theorem mround_of_G {M : Mr} {b : Nat} {body : PCode} {kv : PV × PV} {e : Env} {h : Hp} {R : Env → Hp → Prop} (hit : get e M.it = .mptr b 0 0)
    (hg : G T [.ops M.rsE M.lvE, .code body, .blk M.id2, .stop R] .normal ((M.te, .tup [kv.1, kv.2]) :: (M.tk, .bool true) :: (M.tn, .undef) :: e) h (fun _ _ _ => False)) :
    ∃ q, mround T (X T) M b body kv e h = some q ∧ R q.1 q.2 := by
  simp only [G, frX, Option.map_eq_some_iff] at hg
  obtain ⟨_, ⟨q, hq, rfl⟩, hg⟩ := hg
  obtain ⟨⟨y, e2, h2⟩, hx, hg⟩ := hg
  dsimp only at hx hg
  unfold mround
  rw [if_pos (by rw [hit]; exact PV.beq_refl _)]
  cases y with
  | normal =>
    simp only [G_blk_normal, G_stop_normal] at hg
    exact ⟨(e2, h2), by
      rw [Option.bind_eq_some_iff]
      refine ⟨q, hq, ?_⟩
      rw [Option.bind_eq_some_iff]
      exact ⟨_, hx, rfl⟩, hg⟩
  | ret => simp at hg
  | exit i =>
    rw [G_blk_exit] at hg
    split at hg
    · rename_i hi
      rw [G_stop_normal] at hg
      exact ⟨(e2, h2), by
        rw [Option.bind_eq_some_iff]
        refine ⟨q, hq, ?_⟩
        rw [Option.bind_eq_some_iff]
        exact ⟨_, hx, by simp only; rw [if_pos hi]⟩, hg⟩
    · simp at hg
/-- All rounds in one order, run. -/
theorem MQ_of_G {M : Mr} {a b : PCode} {n : Nat} {e1 : Env} {H1 H2 : Hp} {o : List (PV × PV)} {r : PX × Env × Hp} (J : List (PV × PV) → Env → Hp → Prop) (h0 : J [] ((M.it, .mptr H2.length 0 0) :: e1) (H2 ++ [dead]))
    (hstep : ∀ (p : List (PV × PV)) (kv : PV × PV) (s : List (PV × PV)) (e' : Env) (h' : Hp), o = p ++ kv :: s → J p e' h' → get e' M.it = .mptr H2.length 0 0 ∧
      G T [.ops M.rsE M.lvE, .code a, .blk M.id2, .stop (J (p ++ [kv]))] .normal ((M.te, .tup [kv.1, kv.2]) :: (M.tk, .bool true) :: (M.tn, .undef) :: e') h' (fun _ _ _ => False))
    (hend : ∀ (e' : Env) (h' : Hp), J o e' h' → get e' M.it = .mptr H2.length 0 0 ∧ ∃ H3, mclose (ev e1 M.m) H1 h' = some H3 ∧
      G T [.code b] .normal ((M.tk, .bool false) :: (M.tn, .undef) :: e') H3 (fun x e'' h'' => trimOk n (normE M.live e'') h'' = true ∧ (x, normE M.live e'', h''.take n) = r)) : MQ T M a b n e1 H1 H2 o r := by
  have key : ∀ (s p : List (PV × PV)) (e' : Env) (h' : Hp), o = p ++ s → J p e' h' → ∃ q, mrounds T (X T) M H2.length a s e' h' = some q ∧ J o q.1 q.2 := by
    intro s
    induction s with
    | nil =>
      intro p e' h' ho hJ
      rw [List.append_nil] at ho
      subst ho
      refine ⟨(e', h'), ?_, hJ⟩
      simp only [mrounds]
      rw [if_pos (by rw [(hend e' h' hJ).1]; exact PV.beq_refl _)]
    | cons kv s ih =>
      intro p e' h' ho hJ
      obtain ⟨hit, hg⟩ := hstep p kv s e' h' ho hJ
      obtain ⟨q, h1, h2⟩ := mround_of_G hit hg
      obtain ⟨q2, h3, h4⟩ := ih (p ++ [kv]) q.1 q.2 (by rw [ho]; simp) h2
      exact ⟨q2, by simp only [mrounds, h1, Option.bind_some]; exact h3, h4⟩
  obtain ⟨q, h1, h2⟩ := key o [] _ _ rfl h0
  obtain ⟨_, H3, h3, h4⟩ := hend _ _ h2
  rw [G_code] at h4
  obtain ⟨s, h5, h6⟩ := h4
  rw [G_nil] at h6
  unfold MQ mfull
  rw [Option.bind_eq_some_iff]
  refine ⟨q, h1, ?_⟩
  rw [Option.bind_eq_some_iff]
  refine ⟨H3, h3, ?_⟩
  rw [Option.bind_eq_some_iff]
  refine ⟨s, h5, ?_⟩
  rw [if_pos h6.1, h6.2]
end
end Go.Proofs.Ytmbknidfkddpfaa.PM
