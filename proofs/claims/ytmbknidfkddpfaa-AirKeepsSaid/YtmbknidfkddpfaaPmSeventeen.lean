/- The pure machine, part 17: loops that keep places as they are. -/
import Derived.Test.YtmbknidfkddpfaaPmSixteen
set_option linter.unusedVariables false
set_option linter.unusedSimpArgs false
namespace Go.Proofs.Ytmbknidfkddpfaa.PM

/-- The places' values stay. -/
def Keep (e0 : Env) : List Nat → Env → Prop
  | [], _ => True
  | t :: ts, e => get e t = get e0 t ∧ Keep e0 ts e
@[simp] theorem Keep_nil (e0 e : Env) : Keep e0 [] e = True := rfl
@[simp] theorem Keep_cons (e0 e : Env) (t : Nat) (ts : List Nat) : Keep e0 (t :: ts) e = (get e t = get e0 t ∧ Keep e0 ts e) := rfl
theorem Keep.refl (e : Env) : ∀ L, Keep e L e
  | [] => trivial
  | _ :: ts => ⟨rfl, Keep.refl e ts⟩
section
variable {T : Table} {k : List Fr} {e : Env} {h : Hp} {Q : Post}
/-- A loop that keeps places. -/
theorem G_loopK {α : Type} {p : PCode} (L : List Nat) (I : α → Env → Hp → Prop) (m : α → Nat) {a₀ : α} (h0 : I a₀ e h)
    (hstep : ∀ a e' h', Keep e L e' → I a e' h' → G T (.code p :: .stop (fun e'' h'' => ∃ a', m a' < m a ∧ Keep e L e'' ∧ I a' e'' h'') :: k) .normal e' h' Q) : G T (.code (.loop p) :: k) .normal e h Q := by
  refine G_loop (fun a e' h' => Keep e L e' ∧ I a e' h') m (a₀ := a₀) ⟨Keep.refl _ _, h0⟩ ?_
  rintro a e' h' ⟨h1, h2⟩
  exact hstep a e' h' h1 h2
/-- A loop over places, that keeps places: f is false at each place that is behind. -/
theorem G_scanK {p : PCode} (L : List Nat) (J : Nat → Env → Hp → Prop) (f : Nat → Bool) (n i₀ : Nat) (h0 : J i₀ e h) (hi : i₀ ≤ n)
    (hstep : ∀ i e' h', i₀ ≤ i → i ≤ n → (∀ j, i₀ ≤ j → j < i → f j = false) → Keep e L e' → J i e' h' → G T (.code p :: .stop (fun e'' h'' => i < n ∧ f i = false ∧ Keep e L e'' ∧ J (i + 1) e'' h'') :: k) .normal e' h' Q) : G T (.code (.loop p) :: k) .normal e h Q := by
  refine G_scan (fun i e' h' => Keep e L e' ∧ J i e' h') f n i₀ ⟨Keep.refl _ _, h0⟩ hi ?_
  rintro i e' h' h1 h2 h3 ⟨h4, h5⟩
  exact hstep i e' h' h1 h2 h3 h4 h5
/-- A loop that counts in one place and looks: nothing else becomes otherwise. -/
theorem G_scanC {p : PCode} (L : List Nat) (c : Nat) (f : Nat → Bool) (n i₀ : Nat) (h0 : get e c = .int .i64 (i₀ : Int)) (hi : i₀ ≤ n)
    (hstep : ∀ i e', i₀ ≤ i → i ≤ n → (∀ j, i₀ ≤ j → j < i → f j = false) → Keep e L e' → get e' c = .int .i64 (i : Int) → G T (.code p :: .stop (fun e'' h'' => i < n ∧ f i = false ∧ Keep e L e'' ∧ get e'' c = .int .i64 ((i + 1 : Nat) : Int) ∧ h'' = h) :: k) .normal e' h Q) : G T (.code (.loop p) :: k) .normal e h Q := by
  refine G_scanK L (fun i e' h' => get e' c = .int .i64 (i : Int) ∧ h' = h) f n i₀ ⟨h0, rfl⟩ hi ?_
  rintro i e' h' h1 h2 h3 h4 ⟨h5, rfl⟩
  exact hstep i e' h1 h2 h3 h4 h5
end
/-- A method of an interface's value. -/
def evInv (cp : Nat → List PV → Option PV) (fz : Hp → List PV → Option (List PV)) (meth : Nat → String → Option Nat) (H : Hp) (name : String) (v : PV) (xs : List PV) : Option PV :=
  match v with | .iface t v => (meth t name).bind fun f => evCp cp fz H f (v :: xs) | _ => none
section
variable {cp : Nat → List PV → Option PV} {fz : Hp → List PV → Option (List PV)} {meth : Nat → String → Option Nat} {H : Hp} {name : String} {env : Env}
@[simp ↓ high] theorem evR_inv {x : POpd} {xs : List POpd} : evR cp fz meth env H (.inv x name .pure xs) = evInv cp fz meth H name (ev env x) (evs env xs) := by
  simp only [evR]; rfl
theorem evInv_iface {t f : Nat} {v : PV} {xs : List PV} (h : meth t name = some f) : evInv cp fz meth H name (.iface t v) xs = evCp cp fz H f (v :: xs) := by
  simp only [evInv, h, Option.bind_some]
end
/-! ### Frozen pointers; literals that are written -/
@[simp] theorem frz_mptr (H : Hp) (nl : Nl) (n b gen off : Nat) : frz H nl (n + 1) (.mptr b gen off) = (match H[b]? with
    | some B => if B.gen = gen ∧ off ≤ B.xs.length ∧ B.xs ≠ [] then (mapO (frz H nl n) B.xs).bind fun xs => if nl == .bor || PV.cleanLB xs then some (.pptr (nl == .bor) xs off) else none else none
    | none => none) := rfl
@[simp] theorem evBslm_eq (e : TypeId) (n sz : Nat) (z : List PV) (ps : List (Nat × Nat × PV)) (H : Hp) : evBslm e n sz z ps H = (evFill (rep n z) ps).bind fun xs => if xs.all PV.one && decide (0 < n) then some (.msl true H.length 0 0 n sz, H ++ [⟨e, 0, xs, none⟩]) else none := rfl
@[simp] theorem msl_mls {b gen n : Nat} : PV.msl true b gen 0 n 1 = mls Int b gen n := rfl
/-! ### Parts of a slice -/
section
variable {α : Type} [Enc α] {nl : Nl} {xs : List α}
open Enc
theorem div_cl : (cl xs).length / sz α = xs.length := by rw [length_cl, Nat.mul_div_cancel _ (pos (α := α))]
@[simp] theorem evSlc_hi {s : Nat} {k : IntKind} {i : Int} (h0 : 0 ≤ i) (h1 : i ≤ xs.length) : evSlc s (lst nl xs) none (some (.int k i)) none = if s = sz α then some (lst (nlCut nl (decide (i.toNat = xs.length))) (xs.take i.toNat)) else none := by
  simp only [evSlc, lst, optIx, ixIn, eq_comm (a := sz α)]
  split
  · rename_i hs
    subst hs
    rw [div_cl]
    have : i.toNat ≤ xs.length := by omega
    simp [h0, this, take_cl]
  · rfl
@[simp] theorem evSlc_lo {s : Nat} {k : IntKind} {i : Int} (h0 : 0 ≤ i) (h1 : i ≤ xs.length) : evSlc s (lst nl xs) (some (.int k i)) none none = if s = sz α then some (lst (nlCut nl true) (xs.drop i.toNat)) else none := by
  simp only [evSlc, lst, optIx, ixIn, eq_comm (a := sz α)]
  split
  · rename_i hs
    subst hs
    rw [div_cl]
    have : i.toNat ≤ xs.length := by omega
    simp [h0, this, drop_cl]
    rw [List.take_of_length_le]
    rw [length_cl, List.length_drop]; exact Nat.le_refl _
  · rfl
@[simp] theorem evSlc_lohi {s : Nat} {k k' : IntKind} {i j : Int} (h0 : 0 ≤ i) (h1 : i ≤ j) (h2 : j ≤ xs.length) : evSlc s (lst nl xs) (some (.int k i)) (some (.int k' j)) none = if s = sz α then some (lst (nlCut nl (decide (j.toNat = xs.length))) ((xs.drop i.toNat).take (j.toNat - i.toNat))) else none := by
  simp only [evSlc, lst, optIx, ixIn, eq_comm (a := sz α)]
  split
  · rename_i hs
    subst hs
    rw [div_cl]
    have : i.toNat ≤ xs.length := by omega
    have : j.toNat ≤ xs.length := by omega
    have : i.toNat ≤ j.toNat := by omega
    have : 0 ≤ j := by omega
    simp [*, drop_cl, take_cl]
    omega
  · rfl
end
theorem anyN_cut {f : Nat → Bool} {i₀ n i : Nat} (h : ∀ j, i₀ ≤ j → j < i → f j = false) (hi : n ≤ i) : anyN f i₀ n = false := anyN_f fun j h1 h2 => h j h1 (by omega)
theorem anyN_of {f : Nat → Bool} {i₀ n : Nat} (h : anyN f i₀ n = true) : ∃ i, i₀ ≤ i ∧ i < n ∧ f i = true := by
  obtain ⟨i, hi, hf⟩ := List.any_eq_true.1 h
  have := List.mem_range'_1.1 hi
  exact ⟨i, this.1, by omega, hf⟩
theorem anyN_off {f : Nat → Bool} {i₀ n : Nat} (h : anyN f i₀ n = false) {i : Nat} (h0 : i₀ ≤ i) (h1 : i < n) : f i = false := by
  cases hf : f i
  · rfl
  · rw [anyN_t h0 h1 hf] at h; cases h
theorem anyN_congr {f g : Nat → Bool} {i n : Nat} (h : ∀ j, i ≤ j → j < n → f j = g j) : anyN f i n = anyN g i n := by
  cases hg : anyN g i n
  · exact anyN_f fun j h1 h2 => by rw [h j h1 h2]; exact anyN_off hg h1 h2
  · obtain ⟨j, h1, h2, h3⟩ := anyN_of hg
    exact anyN_t h1 h2 (by rw [h j h1 h2]; exact h3)
end Go.Proofs.Ytmbknidfkddpfaa.PM
