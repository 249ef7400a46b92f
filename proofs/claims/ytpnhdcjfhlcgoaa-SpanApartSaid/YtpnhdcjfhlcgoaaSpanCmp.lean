/- Spans: the comparison of spans, walked: it draws and lays blocks, no more. -/
import Derived.Test.YtpnhdcjfhlcgoaaSpanDropA
import Derived.WalkKit
import Derived.Deep.LoopGhost
import Derived.Lib.Walk
import Derived.Shelf.RegionOpenPlain
import Derived.Deep.RegionHeld3
import Derived.Deep.DrawnRows
import Derived.Sort.Grow
import Derived.Deep.Draws
set_option linter.unusedVariables false
set_option linter.unusedSimpArgs false
namespace Go.Proofs.Ytpnhdcjfhlcgoaa
open Go.Shelf Go.RowKit Go.Lib Go.Sort

def orF (f : Nat → Int) : Int := if f 0 ≠ 0 then f 0 else if f 1 ≠ 0 then f 1 else if f 2 ≠ 0 then f 2 else f 3
theorem orF_at {f : Nat → Int} {k : Nat} (hk : k < 4) (h : ∀ j, j < k → f j = 0) (hz : f k ≠ 0) : orF f = f k := by
  unfold orF
  obtain rfl | rfl | rfl | rfl : k = 0 ∨ k = 1 ∨ k = 2 ∨ k = 3 := by omega
  · rw [if_pos hz]
  · rw [if_neg (by rw [h 0 (by omega)]; simp), if_pos hz]
  · rw [if_neg (by rw [h 0 (by omega)]; simp), if_neg (by rw [h 1 (by omega)]; simp), if_pos hz]
  · rw [if_neg (by rw [h 0 (by omega)]; simp), if_neg (by rw [h 1 (by omega)]; simp), if_neg (by rw [h 2 (by omega)]; simp)]
theorem orF_0 {f : Nat → Int} (h : ∀ j, j < 4 → f j = 0) : orF f = 0 := by
  unfold orF
  rw [if_neg (by rw [h 0 (by omega)]; simp), if_neg (by rw [h 1 (by omega)]; simp), if_neg (by rw [h 2 (by omega)]; simp), h 3 (by omega)]
set_option maxHeartbeats 2000000 in
set_option maxRecDepth 100000 in
theorem or_walk (g c : Nat) (f : Nat → Int) (w : World) (hf : Hid (∀ k, k < 4 → w.cell? ⟨g, k, none⟩ = some (.int .i64 (f k)))) (hc : 4 ≤ c) :
    Calls Try.prog 69 #[.slice (some ⟨g, 0, none⟩) 4 c] w fun e w' => e = .returned (.int .i64 (orF f)) ∧ w' = w := by
  go_enter Try.func69, Try.ntmps69
  go_wp2
  go_loop [8] (fun i => ∃ k : Nat, k ≤ 4 ∧ (∀ j, j < k → f j = 0) ∧ i = .int .i64 k) (fun i => 4 - (Go.RowKit.intOf i).toNat)
  case atStart => exact ⟨0, by omega, fun j hj => by omega, rfl⟩
  case round =>
    obtain ⟨k, hk, hz, rfl⟩ := hrel
    have HZ : Hid (∀ j, j < k → f j = 0) := hz
    clear hz
    by_cases hlt : k < 4
    · have hck : w.cell? ⟨g, k, none⟩ = some (.int .i64 (f k)) := hf.out k hlt
      go_wp2
      · go_ret
        refine ⟨?_, rfl⟩
        rw [orF_at hlt HZ.out (by simpa using ‹(f k != 0) = true›)]
        rfl
      · go_round
        case rel => exact ⟨k + 1, by omega, fun j hj => by
          rcases Nat.lt_succ_iff_lt_or_eq.1 hj with q | rfl
          · exact HZ.out j q
          · simpa using ‹(f j != 0) = false›, by go_num⟩
        case measure => simp [Go.RowKit.intOf]; omega
    · obtain rfl : k = 4 := by omega
      go_wp2
      go_ret
      refine ⟨?_, rfl⟩
      rw [orF_0 HZ.out]
      rfl
theorem nan_walk (a : Int) (w : World) : Calls Try.prog 94 #[.int .i64 a] w fun e w' => e = .returned (.bool false) ∧ w' = w := by
  go_enter Try.func94, Try.ntmps94
  go_wp2
  go_ret
  exact ⟨by simp, rfl⟩
set_option maxHeartbeats 2000000 in
theorem cmp_walk (a b : Int) (w : World) : Calls Try.prog 70 #[.int .i64 a, .int .i64 b] w fun e w' => e = .returned (.int .i64 (cm1 a b)) ∧ w' = w := by
  have h1 : Hid (a < b → cm1 a b = -1) := fun h => by unfold cm1; rw [if_pos h]
  have h2 : Hid (b < a → cm1 a b = 1) := fun h => by unfold cm1; rw [if_neg (by omega), if_pos h]
  have h3 : Hid (¬ a < b → ¬ b < a → cm1 a b = 0) := fun h q => by unfold cm1; rw [if_neg h, if_neg q]
  go_enter Try.func70, Try.ntmps70
  go_wp2_with (go_at_call 94; refine (nan_walk _ _).mono ?_; rintro e w' ⟨rfl, rfl⟩)
  · go_ret
    refine ⟨?_, rfl⟩
    rw [h1.out (by assumption)]; rfl
  · go_ret
    refine ⟨?_, rfl⟩
    rw [h2.out (by assumption)]; rfl
  · go_ret
    refine ⟨?_, rfl⟩
    rw [h3.out (by assumption) (by assumption)]; rfl
attribute [local go_sem ↓] Go.wp_at_zero Go.wp_at_succ
def vals4 (a b c d : Int) (k : Nat) : Int := match k with | 0 => a | 1 => b | 2 => c | _ => d
theorem orF_4 (a b c d : Int) : orF (vals4 a b c d) = or4I a b c d := rfl
theorem cell_new {w : World} {o1 o2 : Obj} {cs : Array Value} {e i : Nat} {v : Value} (h : cs[i]? = some v) : (((w.alloc o1).alloc o2).alloc (.cells cs e)).drew.cell? ⟨w.heap.size + 2, i, none⟩ = some v := by
  have hs : ((w.alloc o1).alloc o2).heap.size = w.heap.size + 2 := by rw [World.size_alloc, World.size_alloc]
  have h1 : (((w.alloc o1).alloc o2).alloc (.cells cs e)).drew.heap[w.heap.size + 2]? = some (.cells cs e) := by
    show (((w.alloc o1).alloc o2).heap.push (.cells cs e))[w.heap.size + 2]? = _
    rw [← hs, Array.getElem?_push_size]
  unfold World.cell?
  dsimp only
  rw [h1]
  exact h
theorem grown3 {w : World} {o1 o2 o3 : Obj} : ∃ q os', (((w.alloc o1).alloc o2).alloc o3).drew = Go.Sort.grow (w.drewN q) os' :=
  ⟨1, #[o1] ++ #[o2] ++ #[o3], by rw [Go.Sort.alloc_eq_grow, Go.Sort.alloc_eq_grow, Go.Sort.alloc_eq_grow, Go.Sort.grow_grow, Go.Sort.grow_grow, Go.Sort.drew_grow]; rfl⟩
theorem vals_cells {a b c d : Int} (g : Nat) (w : World) (h0 : w.cell? ⟨g, 0, none⟩ = some (.int .i64 a)) (h1 : w.cell? ⟨g, 1, none⟩ = some (.int .i64 b)) (h2 : w.cell? ⟨g, 2, none⟩ = some (.int .i64 c)) (h3 : w.cell? ⟨g, 3, none⟩ = some (.int .i64 d)) :
    Hid (∀ k, k < 4 → w.cell? ⟨g, k, none⟩ = some (.int .i64 (vals4 a b c d k))) := by
  intro k hk
  obtain rfl | rfl | rfl | rfl : k = 0 ∨ k = 1 ∨ k = 2 ∨ k = 3 := by omega
  · exact h0
  · exact h1
  · exact h2
  · exact h3
set_option maxHeartbeats 4000000 in
set_option maxRecDepth 100000 in
theorem compare_walk (s t : Sp) (w : World) : Calls Try.prog 53 #[.agg #[.int .i64 s.k, .int .i64 s.a, .int .i64 s.b, .int .i64 s.u], .agg #[.int .i64 t.k, .int .i64 t.a, .int .i64 t.b, .int .i64 t.u]] w fun e w' => e = .returned (.int .i64 (cmS s t)) ∧ ∃ q os', w' = Go.Sort.grow (w.drewN q) os' := by
  have hcm : Hid (cmS s t = or4I (cm1 s.k t.k) (cm1 s.a t.a) (cm1 s.b t.b) (cm1 s.u t.u)) := rfl
  have hc := fun a b w => cmp_walk a b w
  generalize cmS s t = r at *
  obtain ⟨k, a, b, u⟩ := s
  obtain ⟨k', a', b', u'⟩ := t
  dsimp only at hcm ⊢
  go_enter Try.func53, Try.ntmps53
  go_wp2
  go_region_held3 (fun w' => w'.cell? ⟨w.heap.size, 0, none⟩ = some (.int .i64 k) ∧ w'.cell? ⟨w.heap.size, 1, none⟩ = some (.int .i64 a) ∧ w'.cell? ⟨w.heap.size, 2, none⟩ = some (.int .i64 b) ∧ w'.cell? ⟨w.heap.size, 3, none⟩ = some (.int .i64 u)
    ∧ w'.cell? ⟨w.heap.size + 1, 0, none⟩ = some (.int .i64 k') ∧ w'.cell? ⟨w.heap.size + 1, 1, none⟩ = some (.int .i64 a') ∧ w'.cell? ⟨w.heap.size + 1, 2, none⟩ = some (.int .i64 b') ∧ w'.cell? ⟨w.heap.size + 1, 3, none⟩ = some (.int .i64 u')) (go_keep)
    (first | (go_at_call 70; refine (hc _ _ _).mono ?_; rintro e w' ⟨rfl, rfl⟩) | (go_at_call 69; refine (or_walk (w.heap.size + 2) 4 (vals4 (cm1 k k') (cm1 a a') (cm1 b b') (cm1 u u')) _ (vals_cells _ _ (cell_new rfl) (cell_new rfl) (cell_new rfl) (cell_new rfl)) (by omega)).mono ?_; rintro e w' ⟨rfl, rfl⟩))
  go_wp2
  go_ret
  refine And.intro ?_ grown3
  rw [hcm.out]; rfl
end Go.Proofs.Ytpnhdcjfhlcgoaa
