/- Several texts in one: TrainSo, TrainLays, TrainCmp, TrainSrt, TrainNat, TrainClo. -/
import Derived.Test.YtiaeckidlmoohaaGreatPmTwentyFive
import Derived.Test.YtiaeckidlmoohaaGreatPmTwentySeven
import Derived.Test.YtiaeckidlmoohaaGreatProg
import Derived.KernelRfl
import Derived.Shelf.SlLaysF0
import Derived.Shelf.Lays
import Derived.Shelf.Lays2
import Derived.WalkKit
import Derived.Deep.LoopGhost
import Derived.Lib.Walk
import Derived.Shelf.RegionOpenPlain
import Derived.Deep.RegionHeld3
import Derived.Deep.DrawnRows
import Derived.Sort.Grow
import Derived.Deep.Draws
import Derived.Shelf.SlSortCmp.InsertionK
import Derived.Shelf.SlSortCmp.NoneTotal
import Derived.Test.YtiaeckidlmoohaaGreatTrainTab
import Derived.Test.YtiaeckidlmoohaaGreatPmNineteen
import Derived.Shelf.Sort.Plain
import Derived.Shelf.Slices.CompactI
import Derived.Shelf.Slices.In.SortNone
import Derived.Lib.RowBridge
section
set_option linter.unusedVariables false
set_option linter.unusedSimpArgs false
namespace Go.Proofs.YtiaeckidlmoohaaGreat
open Go.Proofs.YtiaeckidlmoohaaGreat.PM
structure So where
  t : Int
  p : Int
  o : Int
instance : Enc So where
  sz := 3
  enc l := [.int .i64 l.t, .int .i64 l.p, .int .i64 l.o]
  dec | [.int .i64 a, .int .i64 b, .int .i64 c] => some ⟨a, b, c⟩ | _ => none
  cln _ := true
  pos := by decide
  len _ := rfl
  one _ := rfl
  pur _ := rfl
  hcln _ := rfl
  dec_enc _ := rfl
  enc_dec l x h := by
    split at h
    · simp only [Option.some.injEq] at h; subst h; rfl
    · cases h
instance : Flat So := ⟨fun _ _ _ _ => rfl⟩
@[simp] theorem sz_so : Enc.sz So = 3 := rfl
@[simp] theorem enc_so (l : So) : Enc.enc l = [.int .i64 l.t, .int .i64 l.p, .int .i64 l.o] := rfl
@[simp] theorem cln_so (l : So) : Enc.cln l = true := rfl
@[simp] theorem dec_so (a b c : Int) : (Enc.dec [PV.int .i64 a, .int .i64 b, .int .i64 c] : Option So) = some ⟨a, b, c⟩ := rfl
@[simp] theorem lst_so (nl : Nl) (a b c : Int) : PV.list nl 3 [.int .i64 a, .int .i64 b, .int .i64 c] = lst nl [(⟨a, b, c⟩ : So)] := rfl
abbrev vSo (l : So) : PV := .agg [.int .i64 l.t, .int .i64 l.p, .int .i64 l.o]
instance : DecidableEq So := fun a b => if h : a.t = b.t ∧ a.p = b.p ∧ a.o = b.o then isTrue (by cases a; cases b; simp at h; obtain ⟨rfl, rfl, rfl⟩ := h; rfl) else isFalse (fun e => h (by subst e; simp))
theorem so_ext {a b : So} : a = b ↔ a.t = b.t ∧ a.p = b.p ∧ a.o = b.o := by cases a; cases b; simp
def cmp (x y : Int) : Int := if x < y then -1 else if y < x then 1 else 0
def cmS (a b : So) : Int := if cmp a.t b.t = 0 then (if cmp a.p b.p = 0 then cmp a.o b.o else cmp a.p b.p) else cmp a.t b.t
theorem cmS_lt (a b : So) : cmS a b < 0 ↔ a.t < b.t ∨ (a.t = b.t ∧ (a.p < b.p ∨ (a.p = b.p ∧ a.o < b.o))) := by
  unfold cmS cmp
  repeat' split
  all_goals omega
end Go.Proofs.YtiaeckidlmoohaaGreat
end
section
set_option maxRecDepth 100000
namespace Go.Proofs.YtiaeckidlmoohaaGreat
open Go.Shelf Go.Proofs
def laysSortF_ren : Ren := ⟨fun x => match x with | 6 => 137 | 14 => 159 | 15 => 160 | 20 => 172 | 21 => 173 | 22 => 174 | 23 => 175 | 24 => 176 | 25 => 177 | 26 => 178 | 27 => 179 | 28 => 180 | 29 => 181 | 46 => 197 | 47 => 198 | 48 => 199 | 49 => 200 | 50 => 201 | 57 => 209 | n => n, fun x => match x with | 0 => 0 | 1 => 1 | 2 => 2 | 3 => 3 | 4 => 4 | 5 => 5 | 6 => 6 | 8 => 8 | 9 => 9 | 10 => 10 | 11 => 11 | 12 => 12 | 14 => 14 | 15 => 15 | 16 => 16 | 17 => 17 | 19 => 19 | 20 => 20 | 21 => 21 | 22 => 55 | 23 => 174 | 24 => 54 | 25 => 83 | 26 => 145 | 27 => 22 | 29 => 124 | 30 => 180 | 37 => 192 | 38 => 193 | 39 => 149 | 40 => 101 | 42 => 184 | 44 => 205 | 45 => 206 | 46 => 207 | 47 => 208 | 48 => 209 | 49 => 210 | 50 => 173 | 51 => 211 | 52 => 212 | 53 => 213 | 54 => 214 | 55 => 215 | 66 => 227 | 67 => 228 | 68 => 229 | 69 => 230 | 70 => 231 | 71 => 232 | 76 => 236 | 77 => 139 | 78 => 237 | 81 => 241 | 83 => 243 | 84 => 244 | 86 => 246 | 87 => 247 | 88 => 248 | 89 => 249 | 90 => 250 | 91 => 251 | 92 => 252 | 93 => 253 | 95 => 255 | 96 => 256 | n => n, fun x => x⟩
theorem laysSortF : SlLaysF0.n6 Tryz.prog laysSortF_ren := {
  mixed := by kernel_rfl,
  f6 := ⟨Tryz.f137.name, by kernel_rfl, by kernel_rfl⟩,
  f14 := ⟨Tryz.f159.name, by kernel_rfl, by kernel_rfl⟩,
  f15 := by kernel_rfl,
  f20 := ⟨Tryz.f172.name, by kernel_rfl, by kernel_rfl⟩,
  f21 := ⟨Tryz.f173.name, by kernel_rfl, by kernel_rfl⟩,
  f22 := ⟨Tryz.f174.name, by kernel_rfl, by kernel_rfl⟩,
  f23 := ⟨Tryz.f175.name, by kernel_rfl, by kernel_rfl⟩,
  f24 := ⟨Tryz.f176.name, by kernel_rfl, by kernel_rfl⟩,
  f25 := ⟨Tryz.f177.name, by kernel_rfl, by kernel_rfl⟩,
  f26 := ⟨Tryz.f178.name, by kernel_rfl, by kernel_rfl⟩,
  f27 := ⟨Tryz.f179.name, by kernel_rfl, by kernel_rfl⟩,
  f28 := by kernel_rfl,
  f29 := by kernel_rfl,
  f46 := ⟨Tryz.f197.name, by kernel_rfl, by kernel_rfl⟩,
  f47 := by kernel_rfl,
  f48 := by kernel_rfl,
  f49 := ⟨Tryz.f200.name, by kernel_rfl, by kernel_rfl⟩,
  f50 := ⟨Tryz.f201.name, by kernel_rfl, by kernel_rfl⟩,
  f57 := ⟨Tryz.f209.name, by kernel_rfl, by kernel_rfl⟩,
  t0 := Tryz.underlying0,
  a0 := Tryz.isAgg0,
  z0 := Tryz.sizeOf0,
  v0 := Tryz.zeroValue0,
  t3 := Tryz.underlying3,
  a3 := Tryz.isAgg3,
  z3 := Tryz.sizeOf3,
  v3 := Tryz.zeroValue3,
  t4 := Tryz.underlying4,
  a4 := Tryz.isAgg4,
  z4 := Tryz.sizeOf4,
  v4 := Tryz.zeroValue4,
  t5 := Tryz.underlying5,
  a5 := Tryz.isAgg5,
  z5 := Tryz.sizeOf5,
  v5 := Tryz.zeroValue5,
  t9 := Tryz.underlying9,
  a9 := Tryz.isAgg9,
  z9 := Tryz.sizeOf9,
  v9 := Tryz.zeroValue9,
  t22 := Tryz.underlying55,
  a22 := Tryz.isAgg55,
  z22 := Tryz.sizeOf55,
  v22 := Tryz.zeroValue55,
  t25 := Tryz.underlying83,
  a25 := Tryz.isAgg83,
  z25 := Tryz.sizeOf83,
  v25 := Tryz.zeroValue83,
  t39 := Tryz.underlying149,
  a39 := Tryz.isAgg149,
  z39 := Tryz.sizeOf149,
  v39 := Tryz.zeroValue149,
  t45 := Tryz.underlying206,
  a45 := Tryz.isAgg206,
  z45 := Tryz.sizeOf206,
  v45 := Tryz.zeroValue206,
  t46 := Tryz.underlying207,
  a46 := Tryz.isAgg207,
  z46 := Tryz.sizeOf207,
  v46 := Tryz.zeroValue207,
  t50 := Tryz.underlying173,
  a50 := Tryz.isAgg173,
  z50 := Tryz.sizeOf173,
  v50 := Tryz.zeroValue173,
  t53 := Tryz.underlying213,
  a53 := Tryz.isAgg213,
  z53 := Tryz.sizeOf213,
  v53 := Tryz.zeroValue213,
  t55 := Tryz.underlying215,
  a55 := Tryz.isAgg215,
  z55 := Tryz.sizeOf215,
  v55 := Tryz.zeroValue215,
  t66 := Tryz.underlying227,
  a66 := Tryz.isAgg227,
  z66 := Tryz.sizeOf227,
  v66 := Tryz.zeroValue227,
  t70 := Tryz.underlying231,
  a70 := Tryz.isAgg231,
  z70 := Tryz.sizeOf231,
  v70 := Tryz.zeroValue231,
  t76 := Tryz.underlying236,
  a76 := Tryz.isAgg236,
  z76 := Tryz.sizeOf236,
  v76 := Tryz.zeroValue236,
  t77 := Tryz.underlying139,
  a77 := Tryz.isAgg139,
  z77 := Tryz.sizeOf139,
  v77 := Tryz.zeroValue139 }
def laysSort_ren : Ren := ⟨fun x => match x with | 125 => 160 | 128 => 180 | 129 => 181 | 189 => 146 | 215 => 150 | 216 => 191 | 257 => 164 | 294 => 185 | 295 => 186 | 296 => 187 | 297 => 188 | 298 => 189 | 299 => 190 | 300 => 192 | 301 => 193 | 328 => 206 | 329 => 198 | 330 => 199 | 331 => 207 | 332 => 208 | 343 => 211 | n => n, fun x => match x with | 0 => 0 | 1 => 1 | 2 => 2 | 3 => 3 | 4 => 4 | 5 => 5 | 6 => 6 | 8 => 8 | 9 => 9 | 10 => 10 | 11 => 11 | 12 => 12 | 14 => 14 | 15 => 15 | 16 => 16 | 17 => 17 | 19 => 19 | 20 => 20 | 21 => 21 | 28 => 22 | 29 => 49 | 30 => 159 | 34 => 45 | 35 => 180 | 43 => 124 | 45 => 48 | 46 => 149 | 47 => 193 | 51 => 213 | 52 => 212 | 53 => 215 | 54 => 214 | 80 => 241 | 81 => 247 | 111 => 184 | 112 => 144 | 114 => 185 | 127 => 251 | 131 => 173 | 134 => 196 | 164 => 256 | 181 => 219 | 182 => 206 | 183 => 207 | 184 => 220 | 185 => 221 | 186 => 222 | 187 => 223 | 218 => 227 | 219 => 228 | 220 => 229 | 221 => 234 | 222 => 231 | 223 => 235 | 228 => 236 | 229 => 139 | 230 => 239 | 239 => 243 | 240 => 244 | 242 => 246 | 243 => 248 | 244 => 249 | 245 => 250 | 246 => 252 | 247 => 253 | 249 => 255 | n => n, fun x => x⟩
theorem laysSort : Lays.n189 Tryz.prog laysSort_ren := {
  mixed := by kernel_rfl,
  f125 := by kernel_rfl,
  f128 := by kernel_rfl,
  f129 := by kernel_rfl,
  f189 := by kernel_rfl,
  f215 := by kernel_rfl,
  f216 := by kernel_rfl,
  f257 := by kernel_rfl,
  f294 := by kernel_rfl,
  f295 := by kernel_rfl,
  f296 := by kernel_rfl,
  f297 := by kernel_rfl,
  f298 := by kernel_rfl,
  f299 := by kernel_rfl,
  f300 := by kernel_rfl,
  f301 := by kernel_rfl,
  f328 := by kernel_rfl,
  f329 := by kernel_rfl,
  f330 := by kernel_rfl,
  f331 := by kernel_rfl,
  f332 := by kernel_rfl,
  f343 := by kernel_rfl,
  t0 := Tryz.underlying0,
  a0 := Tryz.isAgg0,
  z0 := Tryz.sizeOf0,
  v0 := Tryz.zeroValue0,
  t3 := Tryz.underlying3,
  a3 := Tryz.isAgg3,
  z3 := Tryz.sizeOf3,
  v3 := Tryz.zeroValue3,
  t4 := Tryz.underlying4,
  a4 := Tryz.isAgg4,
  z4 := Tryz.sizeOf4,
  v4 := Tryz.zeroValue4,
  t5 := Tryz.underlying5,
  a5 := Tryz.isAgg5,
  z5 := Tryz.sizeOf5,
  v5 := Tryz.zeroValue5,
  t9 := Tryz.underlying9,
  a9 := Tryz.isAgg9,
  z9 := Tryz.sizeOf9,
  v9 := Tryz.zeroValue9,
  t28 := Tryz.underlying22,
  a28 := Tryz.isAgg22,
  z28 := Tryz.sizeOf22,
  v28 := Tryz.zeroValue22,
  t46 := Tryz.underlying149,
  a46 := Tryz.isAgg149,
  z46 := Tryz.sizeOf149,
  v46 := Tryz.zeroValue149,
  t51 := Tryz.underlying213,
  a51 := Tryz.isAgg213,
  z51 := Tryz.sizeOf213,
  v51 := Tryz.zeroValue213,
  t53 := Tryz.underlying215,
  a53 := Tryz.isAgg215,
  z53 := Tryz.sizeOf215,
  v53 := Tryz.zeroValue215,
  t131 := Tryz.underlying173,
  a131 := Tryz.isAgg173,
  z131 := Tryz.sizeOf173,
  v131 := Tryz.zeroValue173,
  t182 := Tryz.underlying206,
  a182 := Tryz.isAgg206,
  z182 := Tryz.sizeOf206,
  v182 := Tryz.zeroValue206,
  t183 := Tryz.underlying207,
  a183 := Tryz.isAgg207,
  z183 := Tryz.sizeOf207,
  v183 := Tryz.zeroValue207,
  t218 := Tryz.underlying227,
  a218 := Tryz.isAgg227,
  z218 := Tryz.sizeOf227,
  v218 := Tryz.zeroValue227,
  t222 := Tryz.underlying231,
  a222 := Tryz.isAgg231,
  z222 := Tryz.sizeOf231,
  v222 := Tryz.zeroValue231,
  t228 := Tryz.underlying236,
  a228 := Tryz.isAgg236,
  z228 := Tryz.sizeOf236,
  v228 := Tryz.zeroValue236,
  t229 := Tryz.underlying139,
  a229 := Tryz.isAgg139,
  z229 := Tryz.sizeOf139,
  v229 := Tryz.zeroValue139 }
def laysCompact_ren : Ren := ⟨fun x => match x with | 20 => 147 | n => n, fun x => match x with | 0 => 0 | 1 => 1 | 2 => 2 | 3 => 3 | 4 => 4 | 5 => 5 | 6 => 6 | 8 => 8 | 9 => 9 | 10 => 10 | 11 => 11 | 12 => 12 | 14 => 14 | 15 => 15 | 16 => 16 | 17 => 17 | 19 => 19 | 20 => 20 | 21 => 21 | 22 => 22 | 23 => 152 | 33 => 173 | 36 => 45 | 40 => 149 | 41 => 144 | 42 => 184 | 45 => 180 | 46 => 241 | 48 => 243 | 49 => 244 | 51 => 246 | 52 => 247 | 53 => 213 | 54 => 248 | 55 => 249 | 56 => 250 | 57 => 251 | 58 => 252 | 59 => 253 | 61 => 255 | 62 => 256 | n => n, fun x => x⟩
theorem laysCompact : Lays2.n20 Tryz.prog laysCompact_ren := {
  mixed := by kernel_rfl,
  f20 := by kernel_rfl,
  t0 := Tryz.underlying0,
  a0 := Tryz.isAgg0,
  z0 := Tryz.sizeOf0,
  v0 := Tryz.zeroValue0,
  t3 := Tryz.underlying3,
  a3 := Tryz.isAgg3,
  z3 := Tryz.sizeOf3,
  v3 := Tryz.zeroValue3,
  t4 := Tryz.underlying4,
  a4 := Tryz.isAgg4,
  z4 := Tryz.sizeOf4,
  v4 := Tryz.zeroValue4,
  t22 := Tryz.underlying22,
  a22 := Tryz.isAgg22,
  z22 := Tryz.sizeOf22,
  v22 := Tryz.zeroValue22,
  i3 := by kernel_rfl }
end Go.Proofs.YtiaeckidlmoohaaGreat
end
section
set_option linter.unusedVariables false
set_option linter.unusedSimpArgs false
namespace Go.Proofs.YtiaeckidlmoohaaGreat
open Go.Shelf Go.RowKit Go.Lib Go.Sort
def orF (f : Nat → Int) : Int := if f 0 ≠ 0 then f 0 else if f 1 ≠ 0 then f 1 else f 2
theorem orF_at {f : Nat → Int} {k : Nat} (hk : k < 3) (h : ∀ j, j < k → f j = 0) (hz : f k ≠ 0) : orF f = f k := by
  unfold orF
  obtain rfl | rfl | rfl : k = 0 ∨ k = 1 ∨ k = 2 := by omega
  · rw [if_pos hz]
  · rw [if_neg (by rw [h 0 (by omega)]; simp), if_pos hz]
  · rw [if_neg (by rw [h 0 (by omega)]; simp), if_neg (by rw [h 1 (by omega)]; simp)]
theorem orF_0 {f : Nat → Int} (h : ∀ j, j < 3 → f j = 0) : orF f = 0 := by
  unfold orF
  rw [if_neg (by rw [h 0 (by omega)]; simp), if_neg (by rw [h 1 (by omega)]; simp), h 2 (by omega)]
set_option maxHeartbeats 2000000 in
set_option maxRecDepth 100000 in
theorem or_walk (g c : Nat) (f : Nat → Int) (w : World) (hf : Hid (∀ k, k < 3 → w.cell? ⟨g, k, none⟩ = some (.int .i64 (f k)))) (hc : 3 ≤ c) :
    Calls Tryz.prog 55 #[.slice (some ⟨g, 0, none⟩) 3 c] w fun e w' => e = .returned (.int .i64 (orF f)) ∧ w' = w := by
  go_enter Tryz.func55, Tryz.ntmps55
  go_wp2
  go_loop [8] (fun i => ∃ k : Nat, k ≤ 3 ∧ (∀ j, j < k → f j = 0) ∧ i = .int .i64 k) (fun i => 3 - (Go.RowKit.intOf i).toNat)
  case atStart => exact ⟨0, by omega, fun j hj => by omega, rfl⟩
  case round =>
    obtain ⟨k, hk, hz, rfl⟩ := hrel
    have HZ : Hid (∀ j, j < k → f j = 0) := hz
    clear hz
    by_cases hlt : k < 3
    · have hck : w.cell? ⟨g, k, none⟩ = some (.int .i64 (f k)) := hf.out k hlt
      go_wp2
      · go_ret
        refine ⟨?_, rfl⟩
        rw [orF_at hlt HZ.out (by simpa using ‹(f k != 0) = true›)]
        rfl
      · go_round
        case rel => exact ⟨k + 1, by omega, fun j hj => by
          rcases Nat.lt_succ_iff_lt_or_eq.1 hj with q | rfl
          · exact HZ.out j q
          · simpa using ‹(f j != 0) = false›, by go_num⟩
        case measure => simp [Go.RowKit.intOf]; omega
    · obtain rfl : k = 3 := by omega
      go_wp2
      go_ret
      refine ⟨?_, rfl⟩
      rw [orF_0 HZ.out]
      rfl
theorem nan_walk (a : Int) (w : World) : Calls Tryz.prog 150 #[.int .i64 a] w fun e w' => e = .returned (.bool false) ∧ w' = w := by
  go_enter Tryz.func150, Tryz.ntmps150
  go_wp2
  go_ret
  exact ⟨by simp, rfl⟩
set_option maxHeartbeats 2000000 in
theorem cmp_walk (a b : Int) (w : World) : Calls Tryz.prog 108 #[.int .i64 a, .int .i64 b] w fun e w' => e = .returned (.int .i64 (cmp a b)) ∧ w' = w := by
  have h1 : Hid (a < b → cmp a b = -1) := fun h => by unfold cmp; rw [if_pos h]
  have h2 : Hid (b < a → cmp a b = 1) := fun h => by unfold cmp; rw [if_neg (by omega), if_pos h]
  have h3 : Hid (¬ a < b → ¬ b < a → cmp a b = 0) := fun h q => by unfold cmp; rw [if_neg h, if_neg q]
  go_enter Tryz.func108, Tryz.ntmps108
  go_wp2_with (go_at_call 150; refine (nan_walk _ _).mono ?_; rintro e w' ⟨rfl, rfl⟩)
  · go_ret
    refine ⟨?_, rfl⟩
    rw [h1.out (by assumption)]; rfl
  · go_ret
    refine ⟨?_, rfl⟩
    rw [h2.out (by assumption)]; rfl
  · go_ret
    refine ⟨?_, rfl⟩
    rw [h3.out (by assumption) (by assumption)]; rfl
attribute [local go_sem ↓] Go.wp_at_zero Go.wp_at_succ
def vals3 (a b c : Int) (k : Nat) : Int := match k with | 0 => a | 1 => b | _ => c
theorem cell_new {w : World} {o1 o2 : Obj} {cs : Array Value} {e i : Nat} {v : Value} (h : cs[i]? = some v) : (((w.alloc o1).alloc o2).alloc (.cells cs e)).drew.cell? ⟨w.heap.size + 2, i, none⟩ = some v := by
  have hs : ((w.alloc o1).alloc o2).heap.size = w.heap.size + 2 := by rw [World.size_alloc, World.size_alloc]
  have h1 : (((w.alloc o1).alloc o2).alloc (.cells cs e)).drew.heap[w.heap.size + 2]? = some (.cells cs e) := by
    show (((w.alloc o1).alloc o2).heap.push (.cells cs e))[w.heap.size + 2]? = _
    rw [← hs, Array.getElem?_push_size]
  unfold World.cell?
  dsimp only
  rw [h1]
  exact h
theorem grown3 {w : World} {o1 o2 o3 : Obj} : ∃ q os', (((w.alloc o1).alloc o2).alloc o3).drew = Go.Sort.grow (w.drewN q) os' :=
  ⟨1, #[o1] ++ #[o2] ++ #[o3], by rw [Go.Sort.alloc_eq_grow, Go.Sort.alloc_eq_grow, Go.Sort.alloc_eq_grow, Go.Sort.grow_grow, Go.Sort.grow_grow, Go.Sort.drew_grow]; rfl⟩
theorem vals_cells {a b c : Int} (g : Nat) (w : World) (h0 : w.cell? ⟨g, 0, none⟩ = some (.int .i64 a)) (h1 : w.cell? ⟨g, 1, none⟩ = some (.int .i64 b)) (h2 : w.cell? ⟨g, 2, none⟩ = some (.int .i64 c)) :
    Hid (∀ k, k < 3 → w.cell? ⟨g, k, none⟩ = some (.int .i64 (vals3 a b c k))) := by
  intro k hk
  obtain rfl | rfl | rfl : k = 0 ∨ k = 1 ∨ k = 2 := by omega
  · exact h0
  · exact h1
  · exact h2
set_option maxHeartbeats 4000000 in
set_option maxRecDepth 100000 in
theorem compare_walk (s t : So) (w : World) : Calls Tryz.prog 56 #[.agg #[.int .i64 s.t, .int .i64 s.p, .int .i64 s.o], .agg #[.int .i64 t.t, .int .i64 t.p, .int .i64 t.o]] w fun e w' => e = .returned (.int .i64 (cmS s t)) ∧ ∃ q os', w' = Go.Sort.grow (w.drewN q) os' := by
  have hcm : Hid (cmS s t = orF (vals3 (cmp s.t t.t) (cmp s.p t.p) (cmp s.o t.o))) := by
    show cmS s t = if cmp s.t t.t ≠ 0 then cmp s.t t.t else if cmp s.p t.p ≠ 0 then cmp s.p t.p else cmp s.o t.o
    unfold cmS
    by_cases h1 : cmp s.t t.t = 0
    · by_cases h2 : cmp s.p t.p = 0
      · simp [h1, h2]
      · simp [h1, h2]
    · simp [h1]
  have hc := fun a b w => cmp_walk a b w
  generalize cmS s t = r at *
  obtain ⟨k, a, b⟩ := s
  obtain ⟨k', a', b'⟩ := t
  dsimp only at hcm ⊢
  go_enter Tryz.func56, Tryz.ntmps56
  go_wp2
  go_region_held3 (fun w' => w'.cell? ⟨w.heap.size, 0, none⟩ = some (.int .i64 k) ∧ w'.cell? ⟨w.heap.size, 1, none⟩ = some (.int .i64 a) ∧ w'.cell? ⟨w.heap.size, 2, none⟩ = some (.int .i64 b)
    ∧ w'.cell? ⟨w.heap.size + 1, 0, none⟩ = some (.int .i64 k') ∧ w'.cell? ⟨w.heap.size + 1, 1, none⟩ = some (.int .i64 a') ∧ w'.cell? ⟨w.heap.size + 1, 2, none⟩ = some (.int .i64 b')) (go_keep)
    (first | (go_at_call 108; refine (hc _ _ _).mono ?_; rintro e w' ⟨rfl, rfl⟩) | (go_at_call 55; refine (or_walk (w.heap.size + 2) 3 (vals3 (cmp k k') (cmp a a') (cmp b b')) _ (vals_cells _ _ (cell_new rfl) (cell_new rfl) (cell_new rfl)) (by omega)).mono ?_; rintro e w' ⟨rfl, rfl⟩))
  go_wp2
  go_ret
  refine And.intro ?_ grown3
  rw [hcm.out]; rfl
end Go.Proofs.YtiaeckidlmoohaaGreat
end
section
set_option linter.unusedVariables false
set_option linter.unusedSimpArgs false
set_option maxHeartbeats 1000000
set_option maxRecDepth 20000
namespace Go.Proofs.YtiaeckidlmoohaaGreat
open Go.Proofs.YtiaeckidlmoohaaGreat.PM Go.Sort
open Go.RowKit (Below)
instance : Inhabited So := ⟨⟨0, 0, 0⟩⟩
theorem ltS_tot {s t : So} (h1 : ltOf cmS s t = false) (h2 : ltOf cmS t s = false) : s = t := by
  have e1 : ¬ cmS s t < 0 := by simpa [ltOf] using h1
  have e2 : ¬ cmS t s < 0 := by simpa [ltOf] using h2
  rw [cmS_lt] at e1 e2
  apply so_ext.2
  omega
theorem ltQ_iff (s t : So) : ltOf cmS s t = true ↔ s.t < t.t ∨ (s.t = t.t ∧ (s.p < t.p ∨ (s.p = t.p ∧ s.o < t.o))) := by
  rw [← cmS_lt]; simp [ltOf]
theorem ltQ_no (s t : So) : ltOf cmS s t = false ↔ ¬ (s.t < t.t ∨ (s.t = t.t ∧ (s.p < t.p ∨ (s.p = t.p ∧ s.o < t.o)))) := by
  rw [← ltQ_iff]; simp
theorem swoS : SWO (ltOf cmS) where
  irrefl x := by rw [ltQ_no]; omega
  trans x y z h1 h2 := by rw [ltQ_iff] at *; omega
  ntrans x y z h1 h2 := by rw [ltQ_no] at *; omega
def encV (s : So) : List Value := [.int .i64 s.t, .int .i64 s.p, .int .i64 s.o]
def encZ (s : So) : List Int := [s.t, s.p, s.o]
def celZ (ys : List So) (t : Nat) : Int := (encZ (ys.getD (t / 3) ⟨0, 0, 0⟩)).getD (t % 3) 0
theorem cl_at : ∀ (ys : List So) (t : Nat), t < ys.length * 3 → (cl ys)[t]? = some (.int .i64 (celZ ys t))
  | [], t, h => by simp at h
  | y :: ys, t, h => by
    rw [cl_cons]
    by_cases ht : t < 3
    · rw [List.getElem?_append_left (by simpa using ht)]
      unfold celZ
      rw [show t / 3 = 0 by omega]
      have : t = 0 ∨ t = 1 ∨ t = 2 := by omega
      rcases this with rfl | rfl | rfl <;> rfl
    · rw [List.getElem?_append_right (by simp; omega)]
      have h4 : (Enc.enc y).length = 3 := rfl
      rw [h4, cl_at ys (t - 3) (by simp at h; omega)]
      unfold celZ
      rw [show t / 3 = (t - 3) / 3 + 1 by omega, show t % 3 = (t - 3) % 3 by omega]
      rfl
theorem flat_at (ys : List So) (t : Nat) (h : t < ys.length * 3) : (flatK encV 3 ys.toArray)[t]! = .int .i64 (celZ ys t) := by
  rw [get_flatK _ _ _ _ (by simpa using h)]
  have hlt : t / 3 < ys.length := by omega
  have h1 : ys.toArray[t / 3]! = ys.getD (t / 3) ⟨0, 0, 0⟩ := by
    rw [getElem!_pos _ _ (by simpa using hlt)]
    simp [List.getD_eq_getElem?_getD, hlt]
  rw [h1]
  unfold celZ
  generalize ys.getD (t / 3) ⟨0, 0, 0⟩ = s
  have : t % 3 = 0 ∨ t % 3 = 1 ∨ t % 3 = 2 := by omega
  rcases this with h | h | h <;> rw [h] <;> rfl
theorem Below_rowV {K : KW} {H : Hp} (hH : HRel K H) {b g n : Nat} {B : Blk} (hb : H[b]? = some B) (hB0 : B.mp = none) (hm : K.μ b B.gen = some (g, n)) {ys : List PV} {vs : Array Value} (hl : ys.length = B.xs.length) (hv : vs.size = ys.length)
    (hz : ∀ i, i < ys.length → ∃ z : Int, ys[i]? = some (.int .i64 z) ∧ vs[i]! = .int .i64 z) (q : Nat) (os : Array Obj) :
    ∃ K' : KW, K'.w = grow (putRow id (Sort.ahead K.w q) g 0 vs) os ∧ K'.μ = K.μ ∧ HRel K' (H.set b ⟨B.e, B.gen, ys, none⟩) ∧ Ext K H K' (H.set b ⟨B.e, B.gen, ys, none⟩) := by
  rcases hH.blk b _ hb with ⟨_, _, hno⟩ | ⟨_, _, _, _, _, hmp, _⟩ | ⟨g', cur, hmp, hm', hh, hzz, hy, hlc, hrc, h1c⟩
  · rw [hm] at hno; cases hno
  · exact absurd hmp (by simp [hB0])
  rw [hm] at hm'
  obtain ⟨rfl, rfl⟩ : g = g' ∧ n = cur.size := by simpa using hm'
  obtain ⟨w1, hw1⟩ : ∃ w1, w1 = putRow id (Sort.ahead K.w q) g 0 vs := ⟨_, rfl⟩
  have hheap : ∀ k, w1.heap[k]? = if g = k then some (.cells (putCells id 0 vs cur) B.e (0, 0)) else K.w.heap[k]? := by
    intro k
    rw [hw1]
    simp only [putRow, mapBlock, Sort.ahead, Array.getElem?_modify]
    by_cases hk : g = k
    · subst hk
      simp only [if_true, hh, Option.map_some, onCells]
    · simp only [if_neg hk]
  have hsz : w1.heap.size = K.w.heap.size := by rw [hw1]; simp [putRow, mapBlock, Sort.ahead]
  have hgb : K.w.grownBy w1 (some g) := by
    refine ⟨by rw [hw1]; rfl, by rw [hw1]; rfl, by rw [hw1]; rfl, Nat.le_of_eq hsz.symm, fun k hk hne => ?_⟩
    rw [hheap, if_neg (fun e => hne (by rw [e]))]
  have hcs : (putCells id 0 vs cur).size = cur.size := by simp [putCells]
  have hone : ys.all PV.one = true := by
    rw [List.all_eq_true]
    intro x hx
    obtain ⟨i, hi, rfl⟩ := List.getElem_of_mem hx
    obtain ⟨z, h1, _⟩ := hz i hi
    rw [List.getElem?_eq_getElem hi, Option.some.injEq] at h1
    rw [h1]; rfl
  have hrow : RepL ⟨w1, K.Z, K.Y, K.μ⟩ ys ((putCells id 0 vs cur).toList.take ys.length) := by
    refine RepL.of ?_ ?_
    · have hq : (putCells id 0 vs cur).toList.length = cur.size := by rw [Array.length_toList]; exact hcs
      rw [List.length_take, hq]
      omega
    · intro i x v hx hv'
      rw [List.getElem?_take] at hv'
      split at hv'
      case isFalse => cases hv'
      rename_i hi
      obtain ⟨z, h1, h2⟩ := hz i hi
      rw [h1, Option.some.injEq] at hx
      subst hx
      simp only [putCells, Array.getElem?_toList, Array.getElem?_mapIdx] at hv'
      rw [Option.map_eq_some_iff] at hv'
      obtain ⟨c, _, rfl⟩ := hv'
      rw [if_pos ⟨Nat.zero_le _, by omega⟩]
      show id vs[i - 0]! = _
      rw [Nat.sub_zero, id, h2]
  obtain ⟨hH', hX'⟩ := hH.put hgb hsz hb hB0 hm (cur' := putCells id 0 vs cur) (by rw [hheap, if_pos rfl]) hcs ys (by omega) hrow hone
  obtain ⟨hH2, hX2⟩ := hH'.grow0 (w' := grow w1 os) ⟨rfl, rfl, rfl, by simp [grow], fun k hk => by
      simp only [grow]
      rw [Array.getElem?_append_left hk]⟩
  exact ⟨⟨grow w1 os, K.Z, K.Y, K.μ⟩, by rw [hw1], rfl, hH2, hX'.trans hX2⟩
theorem holdsK_row {K : KW} {H : Hp} (hH : HRel K H) {b gen g n e : Nat} {zs : List So} (hb : H[b]? = some (bk e gen zs)) (hm : K.μ b gen = some (g, n)) : HoldsK encV 3 K.w g 0 zs.toArray ∧ g < K.w.heap.size := by
  have hl : (cl zs).length = zs.length * 3 := length_cl zs
  rcases hH.blk b _ hb with ⟨_, _, hno⟩ | ⟨_, _, _, _, _, hmp, _⟩ | ⟨g', cur, hmp, hm', hh, hzz, hy, hlc, hrc, h1c⟩
  · rw [hm] at hno; cases hno
  · cases hmp
  dsimp only at hm' hh hlc hrc h1c
  rw [hm] at hm'
  obtain ⟨rfl, rfl⟩ : g = g' ∧ n = cur.size := by simpa using hm'
  refine ⟨fun j hj => ?_, (Array.getElem?_eq_some_iff.1 hh).1⟩
  have hj' : j < zs.length * 3 := by simpa using hj
  obtain ⟨v, hv, hr⟩ := hrc.get j _ (cl_at zs j hj')
  have hvz : v = .int .i64 (celZ zs j) := hr
  rw [List.getElem?_take, if_pos (by omega), Array.getElem?_toList] at hv
  refine ⟨?_, frozen_of_row K.w g _ cur _ hh⟩
  rw [cell_of_row K.w g _ cur _ (0, 0) hh, Nat.zero_add, hv, hvz, id, flat_at zs j hj']
def decS : List PV → Option (List So)
  | [] => some []
  | .int .i64 k :: .int .i64 a :: .int .i64 b :: r => (decS r).map (⟨k, a, b⟩ :: ·)
  | _ => none
theorem decS_some : ∀ {xs : List PV} {zs : List So}, decS xs = some zs → xs = cl zs := by
  intro xs zs h
  induction zs generalizing xs with
  | nil =>
    unfold decS at h
    split at h
    · rfl
    · rw [Option.map_eq_some_iff] at h
      obtain ⟨_, _, h⟩ := h
      cases h
    · cases h
  | cons z zs ih =>
    unfold decS at h
    split at h
    · cases h
    · rw [Option.map_eq_some_iff] at h
      obtain ⟨zs', h1, h2⟩ := h
      simp only [List.cons.injEq] at h2
      obtain ⟨rfl, rfl⟩ := h2
      rw [ih h1]
      rfl
    · cases h
def srtS (zs : List So) : List So := zs.mergeSort fun x y => !(ltOf cmS) y x
theorem len_srtS (zs : List So) : (srtS zs).length = zs.length := by simp [srtS]
noncomputable def natS (f : Nat) (args : List PV) (H : Hp) : Option (PV × Hp) := match args with
  | [.msl true b gen 0 n 3, .clo (.func 56) [] []] =>
    if f = 137 then
      (H[b]?).bind fun B => if B.gen = gen ∧ B.mp = none then (decS B.xs).bind fun zs => if zs.length = n ∧ n ≠ 0 ∧ n < 4611686018427387904 then some (.tup [], H.set b ⟨B.e, gen, cl (srtS zs), none⟩) else none else none
    else none
  | _ => none
theorem cmpLays56 (blk off size : Nat) (w : World) : CmpLays Tryz.prog 56 #[] encV 3 cmS blk off size w :=
  fun _ _ _ _ x y => compare_walk x y _
theorem natS_ok : ∀ f args H r H', natS f args H = some (r, H') → OpenOk Tryz.prog f args H r H' := by
  intro f args H r H' h
  unfold natS at h
  split at h
  case h_2 => cases h
  rename_i b gen n
  split at h
  case isFalse => cases h
  rename_i hf
  subst hf
  simp only [Option.bind_eq_some_iff] at h
  obtain ⟨B, hB, h⟩ := h
  split at h
  case isFalse => cases h
  rename_i hgen
  obtain ⟨rfl, hmp0⟩ := hgen
  simp only [Option.bind_eq_some_iff] at h
  obtain ⟨zs, hzs, h⟩ := h
  split at h
  case isFalse => cases h
  rename_i hlen
  simp only [Option.some.injEq, Prod.mk.injEq] at h
  obtain ⟨rfl, rfl⟩ := h
  obtain ⟨e, gen, xs, mp⟩ := B
  obtain rfl : mp = none := hmp0
  obtain rfl := decS_some hzs
  obtain ⟨rfl, hn0, hbig⟩ := hlen
  refine ⟨⟨Tryz.f137, rfl, by decide, rfl⟩, fun K vs hH hr => ?_⟩
  obtain ⟨v, rfl, hv⟩ : ∃ v, vs = #[v, .func (.func 56) #[] #[]] ∧ Rep K (.msl true b gen 0 zs.length 3) v := by
    obtain ⟨v, l, e, hv, v2, l2, rfl, ⟨f', c', hv2, hf', hc'⟩, hl⟩ := hr
    refine ⟨v, ?_, hv⟩
    apply Array.ext'
    have h1 : f' = #[] := Array.ext' (show f'.toList = [] from hf')
    have h2 : c' = #[] := Array.ext' (show c'.toList = [] from hc')
    rw [e, hv2, h1, h2, show l2 = [] from hl]
  obtain ⟨_, ⟨h0, _⟩ | ⟨g, m, c, hm, rfl, hc, hcm⟩⟩ := hv
  · exact absurd h0 hn0
  obtain ⟨hho, hgl⟩ := holdsK_row hH hB hm
  have eg : ∀ args w, (callFunc 56 args).run Tryz.prog w = .ok (.enter 56 args) w := enters_of Tryz.func56 (by kernel_rfl) rfl
  have hcon := AnyQ.slices_SortFunc_total laysSortF 3 Tryz.isAgg54 Tryz.sizeOf54 encV (fun _ => rfl) (fun x v hv => by simp [encV] at hv; rcases hv with rfl | rfl | rfl <;> rfl) cmS swoS 56 #[] g 0 c zs.toArray K.w eg (cmpLays56 _ _ _ _) hho hgl (by simpa using hbig)
    (fun x y h1 h2 => ltS_tot h1 h2)
  refine hcon.mono ?_
  rintro e' w' ⟨rfl, q, os, rfl⟩
  have hl4 : ∀ zs : List So, (cl zs).length = zs.length * 3 := fun zs => length_cl zs
  obtain ⟨K', hw, hmu, hH', hX'⟩ := Below_rowV hH hB rfl hm (ys := cl (srtS zs)) (vs := flatK encV 3 (srtS zs).toArray) (by rw [hl4, len_srtS]; exact (hl4 zs).symm) (by simp [hl4]) (fun i hi => by
    rw [hl4] at hi
    exact ⟨celZ (srtS zs) i, cl_at _ _ hi, flat_at _ _ hi⟩) q os
  exact ⟨_, K', rfl, hw, hX', hH', _, rfl, rfl⟩
end Go.Proofs.YtiaeckidlmoohaaGreat
end
section
set_option linter.unusedVariables false
set_option linter.unusedSimpArgs false
set_option maxHeartbeats 1000000
set_option maxRecDepth 20000
namespace Go.Proofs.YtiaeckidlmoohaaGreat
open Go.Proofs.YtiaeckidlmoohaaGreat.PM Go.Sort
open Go.RowKit (Below)
def decI : List PV → Option (List Int)
  | [] => some []
  | .int .i64 n :: r => (decI r).map (n :: ·)
  | _ => none
theorem decI_some : ∀ {xs : List PV} {zs : List Int}, decI xs = some zs → xs = cl zs
  | [], zs, h => by simp only [decI, Option.some.injEq] at h; subst h; rfl
  | x :: r, zs, h => by
    unfold decI at h
    split at h
    · cases ‹_ :: _ = []›
    · rename_i n r' e
      simp only [List.cons.injEq] at e
      obtain ⟨rfl, rfl⟩ := e
      rw [Option.map_eq_some_iff] at h
      obtain ⟨zs', h1, rfl⟩ := h
      rw [decI_some h1]
      rfl
    · cases h
theorem decI_cl : ∀ zs : List Int, decI (cl zs) = some zs
  | [] => rfl
  | z :: zs => by
    show (decI (cl zs)).map (z :: ·) = _
    rw [decI_cl zs]; rfl
theorem cl_int : ∀ {ys : List Int} {i : Nat} (h : i < ys.length), (cl ys)[i]? = some (PV.int .i64 ys[i])
  | y :: ys, 0, h => rfl
  | y :: ys, i + 1, h => by
    have := cl_int (ys := ys) (i := i) (by simpa using h)
    simpa [cl_cons] using this
theorem Below_row {K : KW} {H : Hp} (hH : HRel K H) {b gen g n : Nat} {zs ys : List Int} (hb : H[b]? = some (bk 3 gen zs)) (hm : K.μ b gen = some (g, n)) (hl : ys.length = zs.length) (q : Nat) (os : Array Obj) :
    ∃ K' : KW, K'.w = grow (putRow (Value.int .i64) (Sort.ahead K.w q) g 0 ys.toArray) os ∧ K'.μ = K.μ ∧ HRel K' (H.set b (bk 3 gen ys)) ∧ Ext K H K' (H.set b (bk 3 gen ys)) := by
  rcases hH.blk b _ hb with ⟨_, _, hno⟩ | ⟨_, _, _, _, _, hmp, _⟩ | ⟨g', cur, hmp, hm', hh, hz, hy, hlc, hrc, h1c⟩
  · rw [hm] at hno; cases hno
  · cases hmp
  dsimp only at hm' hh hlc hrc h1c
  rw [hm] at hm'
  obtain ⟨rfl, rfl⟩ : g = g' ∧ n = cur.size := by simpa using hm'
  obtain ⟨w1, hw1⟩ : ∃ w1, w1 = putRow (Value.int .i64) (Sort.ahead K.w q) g 0 ys.toArray := ⟨_, rfl⟩
  have hheap : ∀ k, w1.heap[k]? = if g = k then some (.cells (putCells (Value.int .i64) 0 ys.toArray cur) 3 (0, 0)) else K.w.heap[k]? := by
    intro k
    rw [hw1]
    simp only [putRow, mapBlock, Sort.ahead, Array.getElem?_modify]
    by_cases hk : g = k
    · subst hk
      simp only [if_true, hh, Option.map_some, onCells]
    · simp only [if_neg hk]
  have hsz : w1.heap.size = K.w.heap.size := by rw [hw1]; simp [putRow, mapBlock, Sort.ahead]
  have hgb : K.w.grownBy w1 (some g) := by
    refine ⟨by rw [hw1]; rfl, by rw [hw1]; rfl, by rw [hw1]; rfl, Nat.le_of_eq hsz.symm, fun k hk hne => ?_⟩
    rw [hheap, if_neg (fun e => hne (by rw [e]))]
  have hcs : (putCells (Value.int .i64) 0 ys.toArray cur).size = cur.size := by simp [putCells]
  have hlz : (cl zs).length = zs.length := by simp
  have hly : (cl ys).length = ys.length := by simp
  have hrow : RepL ⟨w1, K.Z, K.Y, K.μ⟩ (cl ys) ((putCells (Value.int .i64) 0 ys.toArray cur).toList.take (cl ys).length) := by
    refine RepL.of ?_ ?_
    · have hq : (putCells (Value.int .i64) 0 ys.toArray cur).toList.length = cur.size := by rw [Array.length_toList]; exact hcs
      rw [List.length_take, hq, hly]
      omega
    · intro i x v hx hv
      rw [hly] at hv
      rw [List.getElem?_take] at hv
      split at hv
      case isFalse => cases hv
      rename_i hi
      have hxi : (cl ys)[i]? = some (PV.int .i64 ys[i]) := cl_int hi
      rw [hxi, Option.some.injEq] at hx
      subst hx
      simp only [putCells, Array.getElem?_toList, Array.getElem?_mapIdx] at hv
      rw [Option.map_eq_some_iff] at hv
      obtain ⟨c, _, rfl⟩ := hv
      rw [if_pos ⟨Nat.zero_le _, by simpa using hi⟩]
      show _ = _
      simp [hi]
  obtain ⟨hH', hX'⟩ := hH.put hgb hsz hb rfl hm (cur' := putCells (Value.int .i64) 0 ys.toArray cur) (by rw [hheap, if_pos rfl]) hcs (cl ys) (by omega) hrow (one_cl ys)
  obtain ⟨hH2, hX2⟩ := hH'.grow0 (w' := grow w1 os) ⟨rfl, rfl, rfl, by simp [grow], fun k hk => by
      simp only [grow]
      rw [Array.getElem?_append_left hk]⟩
  exact ⟨⟨grow w1 os, K.Z, K.Y, K.μ⟩, by rw [hw1], rfl, hH2, hX'.trans hX2⟩
def srt (zs : List Int) : List Int := zs.mergeSort fun x y => decide (x ≤ y)
def natI (f : Nat) (args : List PV) (H : Hp) : Option (PV × Hp) := match args with
  | [.msl true b gen 0 n 1] =>
    if f = 146 then
      if n = 0 then some (.tup [], H) else
      (H[b]?).bind fun B => if B.gen = gen ∧ B.e = 3 ∧ B.mp = none then (decI B.xs).bind fun zs => if zs.length = n ∧ n < 4611686018427387904 then some (.tup [], H.set b (bk 3 gen (srt zs))) else none else none
    else if f = 147 then
      if n = 0 then some (.msl true b gen 0 0 1, H) else
      (H[b]?).bind fun B => if B.gen = gen ∧ B.e = 3 ∧ B.mp = none then (decI B.xs).bind fun zs => if zs.length = n ∧ n < 4611686018427387904 then some (mls Int b gen (Lib.compact zs).length, H.set b (bk 3 gen (Lib.compact zs ++ List.replicate (zs.length - (Lib.compact zs).length) 0))) else none else none
    else none
  | _ => none
theorem compact_le (zs : List Int) : (Lib.compact zs).length ≤ zs.length := Lib.compact_length_le zs
theorem len_srt (zs : List Int) : (srt zs).length = zs.length := by simp [srt]
theorem in146 : FnIn Tryz.prog 146 := ⟨Tryz.f146, rfl, by decide, rfl⟩
theorem holds_row {K : KW} {H : Hp} (hH : HRel K H) {b gen g n : Nat} {zs : List Int} (hb : H[b]? = some (bk 3 gen zs)) (hm : K.μ b gen = some (g, n)) : Holds (Value.int .i64) K.w g 0 zs.toArray ∧ g < K.w.heap.size := by
  rcases hH.blk b _ hb with ⟨_, _, hno⟩ | ⟨_, _, _, _, _, hmp, _⟩ | ⟨g', cur, hmp, hm', hh, hz, hy, hlc, hrc, h1c⟩
  · rw [hm] at hno; cases hno
  · cases hmp
  dsimp only at hm' hh hlc hrc h1c
  rw [hm] at hm'
  obtain ⟨rfl, rfl⟩ : g = g' ∧ n = cur.size := by simpa using hm'
  refine ⟨fun j hj => ?_, (Array.getElem?_eq_some_iff.1 hh).1⟩
  have hj' : j < zs.length := by simpa using hj
  obtain ⟨v, hv, hr⟩ := hrc.get j _ (cl_int hj')
  rw [List.getElem?_take] at hv
  split at hv
  case isFalse => cases hv
  have hv' : cur[j]? = some v := by simpa using hv
  refine ⟨?_, frozen_of_row _ _ _ _ _ hh⟩
  rw [Nat.zero_add, cell_of_row K.w g j cur 3 (0, 0) hh, hv', show v = Value.int .i64 zs[j] from hr]
  simp [hj']
theorem natI_ok : ∀ f args H r H', natI f args H = some (r, H') → OpenOk Tryz.prog f args H r H' := by
  intro f args H r H' h
  unfold natI at h
  split at h
  case h_2 => cases h
  rename_i b gen n
  have harg : ∀ (K : KW) (vs : Array Value), HRel K H → RepL K [.msl true b gen 0 n 1] vs.toList → ∃ v, vs = #[v] ∧ Rep K (.msl true b gen 0 n 1) v := by
    intro K vs hH hr
    obtain ⟨v, l, e, hv, hl⟩ := hr
    refine ⟨v, ?_, hv⟩
    apply Array.ext'
    rw [e, show l = [] from hl]
  split at h
  · rename_i hf
    subst hf
    split at h
    · rename_i hn
      subst hn
      simp only [Option.some.injEq, Prod.mk.injEq] at h
      obtain ⟨rfl, rfl⟩ := h
      refine ⟨in146, fun K vs hH hr => ?_⟩
      obtain ⟨v, rfl, hv⟩ := harg K vs hH hr
      obtain ⟨p, cap, rfl⟩ : ∃ p cap, v = .slice p 0 cap := by
        obtain ⟨_, ⟨_, ⟨_, h⟩ | ⟨h, _⟩⟩ | ⟨g, m, c, _, h, _⟩⟩ := hv
        · exact ⟨_, _, h⟩
        · exact absurd rfl h
        · exact ⟨_, _, h⟩
      refine (Any.slices_Sort_int_none laysSort p cap K.w).mono ?_
      rintro e w' ⟨rfl, rfl⟩
      exact ⟨_, K, rfl, rfl, Ext.refl _ _, hH, _, rfl, rfl⟩
    · rename_i hn
      simp only [Option.bind_eq_some_iff] at h
      obtain ⟨B, hB, h⟩ := h
      split at h
      case isFalse => cases h
      rename_i hBB
      simp only [Option.bind_eq_some_iff] at h
      obtain ⟨zs, hzs, h⟩ := h
      split at h
      case isFalse => cases h
      rename_i hlen
      simp only [Option.some.injEq, Prod.mk.injEq] at h
      obtain ⟨rfl, rfl⟩ := h
      obtain ⟨e, gen', xs, mp⟩ := B
      obtain ⟨rfl, rfl, rfl⟩ := hBB
      obtain rfl := decI_some hzs
      obtain ⟨rfl, hbig⟩ := hlen
      refine ⟨in146, fun K vs hH hr => ?_⟩
      obtain ⟨v, rfl, hv⟩ := harg K vs hH hr
      obtain ⟨_, ⟨h0, _⟩ | ⟨g, m, c, hm, rfl, hc, hcm⟩⟩ := hv
      · exact absurd h0 hn
      obtain ⟨hho, hgl⟩ := holds_row hH hB hm
      refine (Any.slices_Sort_int laysSort g 0 c zs K.w hho hgl hbig).mono ?_
      rintro e w' ⟨rfl, q, os, rfl⟩
      obtain ⟨K', hw, hmu, hH', hX'⟩ := Below_row hH hB hm (ys := srt zs) (len_srt zs) q os
      exact ⟨_, K', rfl, hw, hX', hH', _, rfl, rfl⟩
  split at h
  case isFalse => cases h
  rename_i hf
  subst hf
  split at h
  · rename_i hn
    subst hn
    simp only [Option.some.injEq, Prod.mk.injEq] at h
    obtain ⟨rfl, rfl⟩ := h
    obtain ⟨_, _, _, _, hin, _⟩ := fnOk_spec pf147_ok
    refine ⟨hin, fun K vs hH hr => ?_⟩
    obtain ⟨v, rfl, hv⟩ := harg K vs hH hr
    obtain ⟨p, cap, hvv⟩ : ∃ p cap, v = .slice p 0 cap := by
      obtain ⟨_, ⟨_, ⟨_, h⟩ | ⟨h, _⟩⟩ | ⟨g, m, c, _, h, _⟩⟩ := hv
      · exact ⟨_, _, h⟩
      · exact absurd rfl h
      · exact ⟨_, _, h⟩
    subst hvv
    refine (Any.slices_Compact_int_empty laysCompact p cap K.w).mono ?_
    rintro e w' ⟨rfl, rfl⟩
    exact ⟨_, K, rfl, rfl, Ext.refl _ _, hH, hv⟩
  · rename_i hn
    simp only [Option.bind_eq_some_iff] at h
    obtain ⟨B, hB, h⟩ := h
    split at h
    case isFalse => cases h
    rename_i hBB
    simp only [Option.bind_eq_some_iff] at h
    obtain ⟨zs, hzs, h⟩ := h
    split at h
    case isFalse => cases h
    rename_i hlen
    simp only [Option.some.injEq, Prod.mk.injEq] at h
    obtain ⟨rfl, rfl⟩ := h
    obtain ⟨e, gen', xs, mp⟩ := B
    obtain ⟨rfl, rfl, rfl⟩ := hBB
    obtain rfl := decI_some hzs
    obtain ⟨rfl, hbig⟩ := hlen
    obtain ⟨_, _, _, _, hin, _⟩ := fnOk_spec pf147_ok
    refine ⟨hin, fun K vs hH hr => ?_⟩
    obtain ⟨v, rfl, hv⟩ := harg K vs hH hr
    obtain ⟨_, ⟨h0, _⟩ | ⟨g, m, c, hm, rfl, hc, hcm⟩⟩ := hv
    · exact absurd h0 hn
    obtain ⟨hho, hgl⟩ := holds_row hH hB hm
    refine (Any.slices_Compact_int laysCompact g 0 c zs K.w hho (by omega) hc).mono ?_
    rintro e w' ⟨rfl, q, rfl⟩
    have hle := compact_le zs
    obtain ⟨K', hw, hmu, hH', hX'⟩ := Below_row hH hB hm (ys := Lib.compact zs ++ List.replicate (zs.length - (Lib.compact zs).length) 0) (by simp; omega) q #[]
    rw [grow_empty] at hw
    refine ⟨_, K', rfl, hw, hX', hH', by decide, .inr ⟨g, m, c, by rw [hmu]; exact hm, rfl, by omega, hcm⟩⟩
end Go.Proofs.YtiaeckidlmoohaaGreat
end
section
set_option linter.unusedVariables false
set_option linter.unusedSimpArgs false
namespace Go.Proofs.YtiaeckidlmoohaaGreat
open Go.Shelf Go.RowKit Go.Lib Go.Sort
set_option maxHeartbeats 2000000 in
set_option maxRecDepth 100000 in
theorem clone78_nil (c : Nat) (w : World) : Calls Tryz.prog 78 #[.slice none 0 c] w fun e w' => e = .returned (.slice none 0 0) ∧ w' = w := by
  have hq : ∀ w, (binOp .eql 55 (.slice none 0 c) (.slice none 0 0)).run Tryz.prog w = .ok (.bool true) w := by
    intro w
    have h1 : (Op.equal 55 (.slice none 0 c) (.slice none 0 0)).run Tryz.prog w = .ok true w := PM.run_equalIn_nil_right 9999 Tryz.underlying55 _ _ _ _ _ _
    simp only [binOp]
    simp
    rw [h1]
    rfl
  go_enter Tryz.func78, Tryz.ntmps78
  go_wp2
  go_ret
  exact ⟨rfl, rfl⟩
set_option maxHeartbeats 2000000 in
set_option maxRecDepth 100000 in
theorem clone78_some (A : Addr) (c : Nat) (w : World) : Calls Tryz.prog 78 #[.slice (some A) 0 c] w fun e w' => ∃ a, e = .returned (.slice a 0 0) ∧ ∃ os, w' = Go.Sort.grow w os := by
  have hq : ∀ w, (binOp .eql 55 (.slice (some A) 0 c) (.slice none 0 0)).run Tryz.prog w = .ok (.bool false) w := by
    intro w
    have h1 : (Op.equal 55 (.slice (some A) 0 c) (.slice none 0 0)).run Tryz.prog w = .ok false w := PM.run_equalIn_nil_right 9999 Tryz.underlying55 _ _ _ _ _ _
    simp only [binOp]
    simp
    rw [h1]
    rfl
  have t34 := Tryz.underlying55
  have i26 : (Tryz.prog.info? 54).map (fun i => (i.zero, i.size, i.bytes)) = some (some (Value.agg #[.int .i64 0, .int .i64 0, .int .i64 0]), 3, 24) := by kernel_rfl
  obtain ⟨i0, hi0, hz0, hz1, hz2⟩ := info_parts i26
  have happ : ∀ ao ty w, (Builtin.append_ #[55, 55] ty #[.slice ao 0 0, .slice (some A) 0 c]).run Tryz.prog w = .ok (.slice ao 0 0) w := fun ao ty w => PM.run_append_empty t34 hi0 ao _ 0 0 c (Nat.le_refl _) w
  clear hz0 hz1 hz2 hi0 i26
  go_enter Tryz.func78, Tryz.ntmps78
  go_wp2
  go_ret
  exact ⟨some ⟨w.heap.size, 0, none⟩, rfl, #[.cells #[] 54], Go.Sort.alloc_eq_grow _ _⟩
set_option maxHeartbeats 2000000 in
set_option maxRecDepth 100000 in
theorem clone119_nil (c : Nat) (w : World) : Calls Tryz.prog 119 #[.slice none 0 c] w fun e w' => e = .returned (.slice none 0 0) ∧ w' = w := by
  have hq : ∀ w, (binOp .eql 22 (.slice none 0 c) (.slice none 0 0)).run Tryz.prog w = .ok (.bool true) w := by
    intro w
    have h1 : (Op.equal 22 (.slice none 0 c) (.slice none 0 0)).run Tryz.prog w = .ok true w := PM.run_equalIn_nil_right 9999 Tryz.underlying22 _ _ _ _ _ _
    simp only [binOp]
    simp
    rw [h1]
    rfl
  go_enter Tryz.func119, Tryz.ntmps119
  go_wp2
  go_ret
  exact ⟨rfl, rfl⟩
set_option maxHeartbeats 2000000 in
set_option maxRecDepth 100000 in
theorem clone119_some (A : Addr) (c : Nat) (w : World) : Calls Tryz.prog 119 #[.slice (some A) 0 c] w fun e w' => ∃ a, e = .returned (.slice a 0 0) ∧ ∃ os, w' = Go.Sort.grow w os := by
  have hq : ∀ w, (binOp .eql 22 (.slice (some A) 0 c) (.slice none 0 0)).run Tryz.prog w = .ok (.bool false) w := by
    intro w
    have h1 : (Op.equal 22 (.slice (some A) 0 c) (.slice none 0 0)).run Tryz.prog w = .ok false w := PM.run_equalIn_nil_right 9999 Tryz.underlying22 _ _ _ _ _ _
    simp only [binOp]
    simp
    rw [h1]
    rfl
  have t34 := Tryz.underlying22
  have i26 : (Tryz.prog.info? 3).map (fun i => (i.zero, i.size, i.bytes)) = some (some (Value.int .i64 0), 1, 8) := by kernel_rfl
  obtain ⟨i0, hi0, hz0, hz1, hz2⟩ := info_parts i26
  have happ : ∀ ao ty w, (Builtin.append_ #[22, 22] ty #[.slice ao 0 0, .slice (some A) 0 c]).run Tryz.prog w = .ok (.slice ao 0 0) w := fun ao ty w => PM.run_append_empty t34 hi0 ao _ 0 0 c (Nat.le_refl _) w
  clear hz0 hz1 hz2 hi0 i26
  go_enter Tryz.func119, Tryz.ntmps119
  go_wp2
  go_ret
  exact ⟨some ⟨w.heap.size, 0, none⟩, rfl, #[.cells #[] 3], Go.Sort.alloc_eq_grow _ _⟩
set_option maxHeartbeats 2000000 in
set_option maxRecDepth 100000 in
theorem clone120_nil (c : Nat) (w : World) : Calls Tryz.prog 120 #[.slice none 0 c] w fun e w' => e = .returned (.slice none 0 0) ∧ w' = w := by
  have hq : ∀ w, (binOp .eql 23 (.slice none 0 c) (.slice none 0 0)).run Tryz.prog w = .ok (.bool true) w := by
    intro w
    have h1 : (Op.equal 23 (.slice none 0 c) (.slice none 0 0)).run Tryz.prog w = .ok true w := PM.run_equalIn_nil_right 9999 Tryz.underlying23 _ _ _ _ _ _
    simp only [binOp]
    simp
    rw [h1]
    rfl
  go_enter Tryz.func120, Tryz.ntmps120
  go_wp2
  go_ret
  exact ⟨rfl, rfl⟩
set_option maxHeartbeats 2000000 in
set_option maxRecDepth 100000 in
theorem clone120_some (A : Addr) (c : Nat) (w : World) : Calls Tryz.prog 120 #[.slice (some A) 0 c] w fun e w' => ∃ a, e = .returned (.slice a 0 0) ∧ ∃ os, w' = Go.Sort.grow w os := by
  have hq : ∀ w, (binOp .eql 23 (.slice (some A) 0 c) (.slice none 0 0)).run Tryz.prog w = .ok (.bool false) w := by
    intro w
    have h1 : (Op.equal 23 (.slice (some A) 0 c) (.slice none 0 0)).run Tryz.prog w = .ok false w := PM.run_equalIn_nil_right 9999 Tryz.underlying23 _ _ _ _ _ _
    simp only [binOp]
    simp
    rw [h1]
    rfl
  have t34 := Tryz.underlying23
  have i26 : (Tryz.prog.info? 4).map (fun i => (i.zero, i.size, i.bytes)) = some (some (Value.bool false), 1, 1) := by kernel_rfl
  obtain ⟨i0, hi0, hz0, hz1, hz2⟩ := info_parts i26
  have happ : ∀ ao ty w, (Builtin.append_ #[23, 23] ty #[.slice ao 0 0, .slice (some A) 0 c]).run Tryz.prog w = .ok (.slice ao 0 0) w := fun ao ty w => PM.run_append_empty t34 hi0 ao _ 0 0 c (Nat.le_refl _) w
  clear hz0 hz1 hz2 hi0 i26
  go_enter Tryz.func120, Tryz.ntmps120
  go_wp2
  go_ret
  exact ⟨some ⟨w.heap.size, 0, none⟩, rfl, #[.cells #[] 4], Go.Sort.alloc_eq_grow _ _⟩
set_option maxHeartbeats 2000000 in
set_option maxRecDepth 100000 in
theorem clone121_nil (c : Nat) (w : World) : Calls Tryz.prog 121 #[.slice none 0 c] w fun e w' => e = .returned (.slice none 0 0) ∧ w' = w := by
  have hq : ∀ w, (binOp .eql 26 (.slice none 0 c) (.slice none 0 0)).run Tryz.prog w = .ok (.bool true) w := by
    intro w
    have h1 : (Op.equal 26 (.slice none 0 c) (.slice none 0 0)).run Tryz.prog w = .ok true w := PM.run_equalIn_nil_right 9999 Tryz.underlying26 _ _ _ _ _ _
    simp only [binOp]
    simp
    rw [h1]
    rfl
  go_enter Tryz.func121, Tryz.ntmps121
  go_wp2
  go_ret
  exact ⟨rfl, rfl⟩
set_option maxHeartbeats 2000000 in
set_option maxRecDepth 100000 in
theorem clone121_some (A : Addr) (c : Nat) (w : World) : Calls Tryz.prog 121 #[.slice (some A) 0 c] w fun e w' => ∃ a, e = .returned (.slice a 0 0) ∧ ∃ os, w' = Go.Sort.grow w os := by
  have hq : ∀ w, (binOp .eql 26 (.slice (some A) 0 c) (.slice none 0 0)).run Tryz.prog w = .ok (.bool false) w := by
    intro w
    have h1 : (Op.equal 26 (.slice (some A) 0 c) (.slice none 0 0)).run Tryz.prog w = .ok false w := PM.run_equalIn_nil_right 9999 Tryz.underlying26 _ _ _ _ _ _
    simp only [binOp]
    simp
    rw [h1]
    rfl
  have t34 := Tryz.underlying26
  have i26 : (Tryz.prog.info? 75).map (fun i => (i.zero, i.size, i.bytes)) = some (some (Value.agg #[.int .i64 0, .int .i64 0, .int .i64 0, .int .i64 0]), 4, 32) := by kernel_rfl
  obtain ⟨i0, hi0, hz0, hz1, hz2⟩ := info_parts i26
  have happ : ∀ ao ty w, (Builtin.append_ #[26, 26] ty #[.slice ao 0 0, .slice (some A) 0 c]).run Tryz.prog w = .ok (.slice ao 0 0) w := fun ao ty w => PM.run_append_empty t34 hi0 ao _ 0 0 c (Nat.le_refl _) w
  clear hz0 hz1 hz2 hi0 i26
  go_enter Tryz.func121, Tryz.ntmps121
  go_wp2
  go_ret
  exact ⟨some ⟨w.heap.size, 0, none⟩, rfl, #[.cells #[] 75], Go.Sort.alloc_eq_grow _ _⟩
set_option maxHeartbeats 2000000 in
set_option maxRecDepth 100000 in
theorem clone122_nil (c : Nat) (w : World) : Calls Tryz.prog 122 #[.slice none 0 c] w fun e w' => e = .returned (.slice none 0 0) ∧ w' = w := by
  have hq : ∀ w, (binOp .eql 27 (.slice none 0 c) (.slice none 0 0)).run Tryz.prog w = .ok (.bool true) w := by
    intro w
    have h1 : (Op.equal 27 (.slice none 0 c) (.slice none 0 0)).run Tryz.prog w = .ok true w := PM.run_equalIn_nil_right 9999 Tryz.underlying27 _ _ _ _ _ _
    simp only [binOp]
    simp
    rw [h1]
    rfl
  go_enter Tryz.func122, Tryz.ntmps122
  go_wp2
  go_ret
  exact ⟨rfl, rfl⟩
set_option maxHeartbeats 2000000 in
set_option maxRecDepth 100000 in
theorem clone122_some (A : Addr) (c : Nat) (w : World) : Calls Tryz.prog 122 #[.slice (some A) 0 c] w fun e w' => ∃ a, e = .returned (.slice a 0 0) ∧ ∃ os, w' = Go.Sort.grow w os := by
  have hq : ∀ w, (binOp .eql 27 (.slice (some A) 0 c) (.slice none 0 0)).run Tryz.prog w = .ok (.bool false) w := by
    intro w
    have h1 : (Op.equal 27 (.slice (some A) 0 c) (.slice none 0 0)).run Tryz.prog w = .ok false w := PM.run_equalIn_nil_right 9999 Tryz.underlying27 _ _ _ _ _ _
    simp only [binOp]
    simp
    rw [h1]
    rfl
  have t34 := Tryz.underlying27
  have i26 : (Tryz.prog.info? 78).map (fun i => (i.zero, i.size, i.bytes)) = some (some (Value.agg #[.int .i64 0, .int .i64 0, .int .i64 0, .int .i64 0, .int .i64 0, .int .i64 0]), 6, 48) := by kernel_rfl
  obtain ⟨i0, hi0, hz0, hz1, hz2⟩ := info_parts i26
  have happ : ∀ ao ty w, (Builtin.append_ #[27, 27] ty #[.slice ao 0 0, .slice (some A) 0 c]).run Tryz.prog w = .ok (.slice ao 0 0) w := fun ao ty w => PM.run_append_empty t34 hi0 ao _ 0 0 c (Nat.le_refl _) w
  clear hz0 hz1 hz2 hi0 i26
  go_enter Tryz.func122, Tryz.ntmps122
  go_wp2
  go_ret
  exact ⟨some ⟨w.heap.size, 0, none⟩, rfl, #[.cells #[] 78], Go.Sort.alloc_eq_grow _ _⟩
set_option maxHeartbeats 2000000 in
set_option maxRecDepth 100000 in
theorem clone123_nil (c : Nat) (w : World) : Calls Tryz.prog 123 #[.slice none 0 c] w fun e w' => e = .returned (.slice none 0 0) ∧ w' = w := by
  have hq : ∀ w, (binOp .eql 28 (.slice none 0 c) (.slice none 0 0)).run Tryz.prog w = .ok (.bool true) w := by
    intro w
    have h1 : (Op.equal 28 (.slice none 0 c) (.slice none 0 0)).run Tryz.prog w = .ok true w := PM.run_equalIn_nil_right 9999 Tryz.underlying28 _ _ _ _ _ _
    simp only [binOp]
    simp
    rw [h1]
    rfl
  go_enter Tryz.func123, Tryz.ntmps123
  go_wp2
  go_ret
  exact ⟨rfl, rfl⟩
set_option maxHeartbeats 2000000 in
set_option maxRecDepth 100000 in
theorem clone123_some (A : Addr) (c : Nat) (w : World) : Calls Tryz.prog 123 #[.slice (some A) 0 c] w fun e w' => ∃ a, e = .returned (.slice a 0 0) ∧ ∃ os, w' = Go.Sort.grow w os := by
  have hq : ∀ w, (binOp .eql 28 (.slice (some A) 0 c) (.slice none 0 0)).run Tryz.prog w = .ok (.bool false) w := by
    intro w
    have h1 : (Op.equal 28 (.slice (some A) 0 c) (.slice none 0 0)).run Tryz.prog w = .ok false w := PM.run_equalIn_nil_right 9999 Tryz.underlying28 _ _ _ _ _ _
    simp only [binOp]
    simp
    rw [h1]
    rfl
  have t34 := Tryz.underlying28
  have i26 : (Tryz.prog.info? 68).map (fun i => (i.zero, i.size, i.bytes)) = some (some (Value.agg #[.int .i64 0, .int .i64 0, .int .i64 0, .slice none 0 0, .slice none 0 0]), 5, 72) := by kernel_rfl
  obtain ⟨i0, hi0, hz0, hz1, hz2⟩ := info_parts i26
  have happ : ∀ ao ty w, (Builtin.append_ #[28, 28] ty #[.slice ao 0 0, .slice (some A) 0 c]).run Tryz.prog w = .ok (.slice ao 0 0) w := fun ao ty w => PM.run_append_empty t34 hi0 ao _ 0 0 c (Nat.le_refl _) w
  clear hz0 hz1 hz2 hi0 i26
  go_enter Tryz.func123, Tryz.ntmps123
  go_wp2
  go_ret
  exact ⟨some ⟨w.heap.size, 0, none⟩, rfl, #[.cells #[] 68], Go.Sort.alloc_eq_grow _ _⟩
open Go.Proofs.YtiaeckidlmoohaaGreat.PM
theorem clone_pure {f sz : Nat} (hsz : 0 < sz) (hf : FnIn Tryz.prog f) (h1 : ∀ (c : Nat) (w : World), Calls Tryz.prog f #[.slice none 0 c] w fun e w' => e = .returned (.slice none 0 0) ∧ w' = w)
    (h2 : ∀ (A : Addr) (c : Nat) (w : World), Calls Tryz.prog f #[.slice (some A) 0 c] w fun e w' => ∃ a, e = .returned (.slice a 0 0) ∧ ∃ os, w' = Go.Sort.grow w os) (nl : Nl) : PureOk Tryz.prog f [.list nl sz []] (.list .any sz []) := by
  refine ⟨hf, fun w Z Y vs hl hr => ?_⟩
  obtain ⟨ao, c, rfl⟩ : ∃ ao c, vs = #[.slice ao 0 c] := by
    obtain ⟨v, l, e, hv, hl⟩ := hr
    obtain ⟨_, _, ao, n, c, rfl, hn, _⟩ := hv
    have : n = 0 := by
      rcases Nat.eq_zero_or_pos n with h | h
      · exact h
      · have := Nat.mul_pos h hsz
        have hn' : 0 = n * sz := hn
        omega
    subst this
    refine ⟨ao, c, ?_⟩
    apply Array.ext'
    rw [e, show l = [] from hl]
  cases ao with
  | none =>
    refine (h1 c w).mono ?_
    rintro e w' ⟨rfl, rfl⟩
    exact ⟨_, rfl, Below.refl _ _, hsz, by simp [PV.cleanL], none, 0, 0, rfl, by simp, Nat.le_refl _, .inl rfl⟩
  | some A =>
    refine (h2 A c w).mono ?_
    rintro e w' ⟨a, rfl, os, rfl⟩
    refine ⟨_, rfl, ⟨rfl, rfl, rfl, by simp [Go.Sort.grow], fun k hk => ?_⟩, hsz, by simp [PV.cleanL], a, 0, 0, rfl, by simp, Nat.le_refl _, .inl rfl⟩
    simp only [Go.Sort.grow]
    rw [Array.getElem?_append_left hk]
theorem clone_open {f sz : Nat} (hsz : 0 < sz) (hf : FnIn Tryz.prog f) (h1 : ∀ (c : Nat) (w : World), Calls Tryz.prog f #[.slice none 0 c] w fun e w' => e = .returned (.slice none 0 0) ∧ w' = w)
    (h2 : ∀ (A : Addr) (c : Nat) (w : World), Calls Tryz.prog f #[.slice (some A) 0 c] w fun e w' => ∃ a, e = .returned (.slice a 0 0) ∧ ∃ os, w' = Go.Sort.grow w os) (nl : Nl) (H : Hp) : OpenOk Tryz.prog f [.list nl sz []] H (.list .ex sz []) H := by
  refine ⟨hf, fun K vs hH hr => ?_⟩
  obtain ⟨ao, c, rfl⟩ : ∃ ao c, vs = #[.slice ao 0 c] := by
    obtain ⟨v, l, e, hv, hl⟩ := hr
    obtain ⟨_, _, ao, n, c, rfl, hn, _⟩ := hv
    have : n = 0 := by
      rcases Nat.eq_zero_or_pos n with h | h
      · exact h
      · have := Nat.mul_pos h hsz
        have hn' : 0 = n * sz := hn
        omega
    subst this
    refine ⟨ao, c, ?_⟩
    apply Array.ext'
    rw [e, show l = [] from hl]
  cases ao with
  | none =>
    refine (h1 c K.w).mono ?_
    rintro e w' ⟨rfl, rfl⟩
    exact ⟨_, K, rfl, rfl, Ext.refl _ _, hH, hsz, by simp [PV.cleanL], none, 0, 0, rfl, by simp, rfl, .inl rfl⟩
  | some A =>
    refine (h2 A c K.w).mono ?_
    rintro e w' ⟨a, rfl, os, rfl⟩
    obtain ⟨hH2, hX2⟩ := hH.grow0 (w' := Go.Sort.grow K.w os) ⟨rfl, rfl, rfl, by simp [Go.Sort.grow], fun k hk => by
      simp only [Go.Sort.grow]
      rw [Array.getElem?_append_left hk]⟩
    exact ⟨_, _, rfl, rfl, hX2, hH2, hsz, by simp [PV.cleanL], a, 0, 0, rfl, by simp, rfl, .inl rfl⟩
end Go.Proofs.YtiaeckidlmoohaaGreat
end
