/- The pure machine, part 9: freezing; the equality of values; a list of operations in its order. -/
import Derived.Test.YtmbknidfkddpfaaPmEight
set_option linter.unusedVariables false
set_option linter.unusedSimpArgs false
namespace Go.Proofs.Ytmbknidfkddpfaa.PM
open Go.RowKit (Below)

def mapO (f : PV → Option PV) : List PV → Option (List PV)
  | [] => some []
  | x :: xs => (f x).bind fun y => (mapO f xs).map fun ys => y :: ys
theorem mapO_id {f : PV → Option PV} : ∀ {xs : List PV}, (∀ x ∈ xs, f x = some x) → mapO f xs = some xs
  | [], _ => rfl
  | x :: xs, h => by
    have h2 : mapO f xs = some xs := mapO_id fun y hy => h y (List.mem_cons_of_mem _ hy)
    simp [mapO, h x (by simp), h2]
theorem mapO_length {f : PV → Option PV} : ∀ {xs ys : List PV}, mapO f xs = some ys → ys.length = xs.length
  | [], ys, h => by simp only [mapO, Option.some.injEq] at h; subst h; rfl
  | x :: xs, ys, h => by
    simp only [mapO, Option.bind_eq_some_iff, Option.map_eq_some_iff] at h
    obtain ⟨y, _, ys', h', rfl⟩ := h
    simp [mapO_length h']

/-- A value by value: slices and pointers into the small heap are looked up. -/
def frz (H : Hp) (nl : Nl) : Nat → PV → Option PV
  | 0, _ => none
  | n + 1, x => match x with
    | .msl ap b gen off len sz => if len = 0 then some (.list nl sz []) else
        (srcOf (.msl ap b gen off len sz) sz H).bind fun ys => (mapO (frz H nl n) ys).bind fun ys' => if nl == .bor || PV.cleanLB ys' then some (.list nl sz ys') else none
    | .mptr b gen off => (match H[b]? with
        | some B => if B.gen = gen ∧ off ≤ B.xs.length ∧ B.xs ≠ [] then (mapO (frz H nl n) B.xs).bind fun xs => if nl == .bor || PV.cleanLB xs then some (.pptr (nl == .bor) xs off) else none else none
        | none => none)
    | .agg xs => (mapO (frz H nl n) xs).map .agg
    | .tup xs => (mapO (frz H nl n) xs).map .tup
    | .clo fn f c => (mapO (frz H nl n) f).bind fun f' => (mapO (frz H nl n) c).map fun c' => .clo fn f' c'
    | .iface t v => (frz H nl n v).map (.iface t)
    | .mmap b => (match H[b]? with
        | some B => (match B.mp with
          | some m => if B.gen = 0 then (mapO (frz H nl n) m.vs).bind fun vs => if nl == .bor || PV.cleanLB vs then some (.fmap (nl == .bor) m.kn m.ks vs) else none else none
          | none => none)
        | none => none)
    | .stp .. => none
    | x => some x

theorem frz_one (H : Hp) (nl : Nl) : ∀ (n : Nat) (x y : PV), frz H nl n x = some y → x.one = true → y.one = true
  | 0, x, y, h, _ => by simp [frz] at h
  | n + 1, x, y, h, h1 => by
    cases x <;> simp only [frz, Option.some.injEq] at h <;> simp only [PV.one, Bool.false_eq_true] at h1
    case msl =>
      split at h
      · simp only [Option.some.injEq] at h; subst h; rfl
      · simp only [Option.bind_eq_some_iff] at h
        obtain ⟨ys, _, ys', _, h⟩ := h
        split at h
        · simp only [Option.some.injEq] at h; subst h; rfl
        · cases h
    case mptr =>
      split at h
      · split at h
        · simp only [Option.bind_eq_some_iff] at h
          obtain ⟨ys', _, h⟩ := h
          split at h
          · simp only [Option.some.injEq] at h; subst h; rfl
          · cases h
        · cases h
      · cases h
    case clo =>
      simp only [Option.bind_eq_some_iff, Option.map_eq_some_iff] at h
      obtain ⟨f', _, c', _, rfl⟩ := h
      rfl
    case iface =>
      simp only [Option.map_eq_some_iff] at h
      obtain ⟨v', _, rfl⟩ := h
      rfl
    case mmap =>
      split at h
      case h_2 => cases h
      split at h
      case h_2 => cases h
      split at h
      case isFalse => cases h
      simp only [Option.bind_eq_some_iff] at h
      obtain ⟨vs', _, h⟩ := h
      split at h
      · simp only [Option.some.injEq] at h; subst h; rfl
      · cases h
    case stp => cases h
    all_goals (subst h; rfl)

theorem mapO_repL {K K' : KW} {f : PV → Option PV} (hf : ∀ x y v, f x = some y → Rep K x v → Rep K' y v ∧ y.pure) : ∀ {xs ys : List PV} {l : List Value}, mapO f xs = some ys → RepL K xs l → RepL K' ys l ∧ PV.pureL ys
  | [], ys, l, h, hr => by
    simp only [mapO, Option.some.injEq] at h
    subst h
    exact ⟨hr, trivial⟩
  | x :: xs, ys, l, h, hr => by
    simp only [mapO, Option.bind_eq_some_iff, Option.map_eq_some_iff] at h
    obtain ⟨y, hy, ys', h', rfl⟩ := h
    obtain ⟨v, vs, rfl, hx, hxs⟩ := hr
    obtain ⟨h1, h2⟩ := hf x y v hy hx
    obtain ⟨h3, h4⟩ := mapO_repL hf h' hxs
    exact ⟨⟨v, vs, rfl, h1, h3⟩, h2, h4⟩
theorem mapO_row {K K' : KW} (hw : K'.w = K.w) {f : PV → Option PV} (hf : ∀ x y v, f x = some y → Rep K x v → Rep K' y v ∧ y.pure) (h1 : ∀ x y, f x = some y → x.one = true → y.one = true) : ∀ {xs ys : List PV} {g o : Nat}, mapO f xs = some ys → RepRow K xs g o → RepRow K' ys g o ∧ PV.pureL ys
  | [], ys, g, o, h, hr => by
    simp only [mapO, Option.some.injEq] at h
    subst h
    exact ⟨trivial, trivial⟩
  | x :: xs, ys, g, o, h, hr => by
    simp only [mapO, Option.bind_eq_some_iff, Option.map_eq_some_iff] at h
    obtain ⟨y, hy, ys', h', rfl⟩ := h
    obtain ⟨⟨v, hv, hv1, hx1, hx⟩, hxs⟩ := hr
    obtain ⟨q1, q2⟩ := hf x y v hy hx
    obtain ⟨q3, q4⟩ := mapO_row hw hf h1 h' hxs
    exact ⟨⟨⟨v, by rw [hw]; exact hv, hv1, h1 x y hy hx1, q1⟩, q3⟩, q2, q4⟩

theorem frz_spec {K K' : KW} {H : Hp} {nl : Nl} (hnl : nl = .bor ∨ nl = .any) (hH : HRel K H) (hw : K'.w = K.w) (hZ : ∀ g, K.Z g → K'.Z g) (hY : ∀ g, K.Y g → K'.Z g ∨ K'.Y g) (hL : ∀ g, Live K H g → K'.S (nl == .bor) g) :
    ∀ (n : Nat) (x y : PV) (v : Value), frz H nl n x = some y → Rep K x v → Rep K' y v ∧ y.pure
  | 0, x, y, v, h, _ => by simp [frz] at h
  | n + 1, x, y, v, h, hr => by
    have ih := frz_spec hnl hH hw hZ hY hL n
    have atom : x.pureB = true → y = x → Rep K' y v ∧ y.pure := by
      intro hp e
      subst e
      have hpu := Rep.pure_of y v hr hp
      exact ⟨Rep.move (A := True) (B := False) (fun g hg => ⟨hZ g hg, by rw [hw]⟩) (fun _ g hg => ⟨hY g hg, by rw [hw]⟩) (fun q => q.elim) (fun q => q.elim) y v (.inr trivial) (.inl hpu) hr, hpu⟩
    have hbor : (decide (nl = .bor)) = (nl == .bor) := by rcases hnl with rfl | rfl <;> rfl
    have mk : ∀ {ys : List PV}, PV.pureL ys → (nl == .bor || PV.cleanLB ys) = true → (∀ l, RepL K' ys l → (nl == .bor) = false → PV.cleanL ys) → (∃ l, RepL K' ys l) → (if nl = .bor then PV.pureL ys else PV.cleanL ys) := by
      intro ys hp hc hcl ⟨l, hl⟩
      rcases hnl with rfl | rfl
      · simpa using hp
      · simp only [reduceCtorEq, if_false]
        exact hcl l hl (by rfl)
    cases x <;> simp only [frz, Option.some.injEq] at h
    case msl ap b gen off len sz =>
      obtain ⟨hp, hr⟩ := hr
      split at h
      · rename_i h0
        subst h0
        simp only [Option.some.injEq] at h
        subst h
        refine ⟨⟨hp, by rcases hnl with rfl | rfl <;> simp [PV.pureL, PV.cleanL], ?_⟩, by simp [PV.pure, PV.pureL]⟩
        have hv : ∃ a c, v = .slice a 0 c := by
          rcases hr with ⟨_, ⟨_, hv⟩ | ⟨_, a, c, hv⟩⟩ | ⟨g, m, c, _, hv, _⟩
          · exact ⟨_, _, hv⟩
          · exact ⟨_, _, hv⟩
          · exact ⟨_, _, hv⟩
        obtain ⟨a, c, hv⟩ := hv
        exact ⟨a, 0, c, hv, by simp, by rcases hnl with rfl | rfl <;> simp [nlOk], .inl rfl⟩
      · rename_i h0
        simp only [Option.bind_eq_some_iff] at h
        obtain ⟨ys, hys, ys', hm, h⟩ := h
        split at h
        case isFalse => cases h
        rename_i hc
        simp only [Option.some.injEq] at h
        subst h
        simp only [srcOf, if_true, if_neg h0] at hys
        split at hys
        case h_2 => cases hys
        rename_i B hB
        split at hys
        case isFalse => cases hys
        rename_i hc2
        obtain ⟨rfl, hle⟩ := hc2
        simp only [Option.some.injEq] at hys
        subst hys
        rcases hr with ⟨q, _⟩ | ⟨g, m, c, hmu, hv, hlc, _⟩
        · exact absurd q h0
        · have hrow := ((hH.row hB hmu).drop off).take (len * sz)
          rw [Nat.zero_add] at hrow
          obtain ⟨hrow', hpu⟩ := mapO_row hw ih (frz_one H nl n) hm hrow
          obtain ⟨l, hl, _, _⟩ := hrow'.vals
          have hlen : ys'.length = len * sz := by
            rw [mapO_length hm, List.length_take, List.length_drop]; omega
          refine ⟨⟨hp, mk hpu hc (fun l hl q => ?_) ⟨l, hl⟩, _, len, c, hv, hlen, by rcases hnl with rfl | rfl <;> exact hlc, .inr ⟨g, off, rfl, ?_, hrow'⟩⟩, hpu⟩
          · rw [q] at hc
            exact RepL.clean_of _ _ hl (by simpa using hc)
          · rw [hbor]
            exact hL g ⟨b, B, m, hB, hmu⟩
    case mptr b gen off =>
      obtain ⟨g, m, hmu, hv⟩ := hr
      split at h
      case h_2 => cases h
      rename_i B hB
      split at h
      case isFalse => cases h
      rename_i hc2
      obtain ⟨rfl, hle, hne⟩ := hc2
      simp only [Option.bind_eq_some_iff] at h
      obtain ⟨ys', hm, h⟩ := h
      split at h
      case isFalse => cases h
      rename_i hc
      simp only [Option.some.injEq] at h
      subst h
      obtain ⟨hrow', hpu⟩ := mapO_row hw ih (frz_one H nl n) hm (hH.row hB hmu)
      obtain ⟨l, hl, _, _⟩ := hrow'.vals
      refine ⟨⟨?_, by rw [mapO_length hm]; exact hle, g, 0, by rw [Nat.zero_add]; exact hv, hL g ⟨b, B, m, hB, hmu⟩, hrow'⟩, hpu⟩
      rcases hnl with rfl | rfl
      · simpa using hpu
      · have hc' : PV.cleanLB ys' = true := by simpa using hc
        simpa using RepL.clean_of _ _ hl hc'
    case agg xs =>
      simp only [Option.map_eq_some_iff] at h
      obtain ⟨ys, hm, rfl⟩ := h
      obtain ⟨vs, rfl, hl⟩ := hr
      obtain ⟨h1, h2⟩ := mapO_repL ih hm hl
      exact ⟨⟨vs, rfl, h1⟩, h2⟩
    case tup xs =>
      simp only [Option.map_eq_some_iff] at h
      obtain ⟨ys, hm, rfl⟩ := h
      obtain ⟨vs, rfl, hl⟩ := hr
      obtain ⟨h1, h2⟩ := mapO_repL ih hm hl
      exact ⟨⟨vs, rfl, h1⟩, h2⟩
    case clo fn f c =>
      simp only [Option.bind_eq_some_iff, Option.map_eq_some_iff] at h
      obtain ⟨f', hf, c', hc, rfl⟩ := h
      obtain ⟨fs, cs, rfl, h1, h2⟩ := hr
      obtain ⟨q1, q2⟩ := mapO_repL ih hf h1
      obtain ⟨q3, q4⟩ := mapO_repL ih hc h2
      exact ⟨⟨fs, cs, rfl, q1, q3⟩, q2, q4⟩
    case iface t u =>
      simp only [Option.map_eq_some_iff] at h
      obtain ⟨u', hu, rfl⟩ := h
      obtain ⟨w, rfl, h1⟩ := hr
      obtain ⟨q1, q2⟩ := ih u u' w hu h1
      exact ⟨⟨w, rfl, q1⟩, q2⟩
    case mmap b =>
      obtain ⟨g, m0, hmu, hv⟩ := hr
      split at h
      case h_2 => cases h
      rename_i B hB
      split at h
      case h_2 => cases h
      rename_i m hm
      split at h
      case isFalse => cases h
      rename_i hB0
      simp only [Option.bind_eq_some_iff] at h
      obtain ⟨vs', hvs, h⟩ := h
      split at h
      case isFalse => cases h
      rename_i hc
      simp only [Option.some.injEq] at h
      subst h
      rcases hH.blk b B hB with ⟨_, hn, _⟩ | ⟨m2, g', es, cl, _, hp', _, hm2, hh, _, _, hmp⟩ | ⟨_, _, hn, _⟩
      · rw [hm] at hn; cases hn
      · rw [hm, Option.some.injEq] at hp'
        subst hp'
        have hlv := hL g' ⟨b, B, 0, hB, hm2⟩
        rw [hB0, hmu] at hm2
        obtain ⟨rfl, _⟩ : g = g' ∧ m0 = 0 := by simpa using hm2
        obtain ⟨hk, hst, es', hpm, hks, hvs0⟩ := hmp
        obtain ⟨h1, h2⟩ := mapO_repL ih hvs hvs0
        refine ⟨⟨?_, hk, g, es, cl, es', hv, hlv, by rw [hw]; exact hh, hst, hpm, hks, h1⟩, h2⟩
        rcases hnl with rfl | rfl
        · simpa using h2
        · have hc' : PV.cleanLB vs' = true := by simpa using hc
          simpa using RepL.clean_of _ _ h1 hc'
      · rw [hm] at hn; cases hn
    case stp => cases h
    all_goals exact atom rfl h.symm

def fzB (H : Hp) (xs : List PV) : Option (List PV) := mapO (frz H .bor 64) xs
theorem fzB_ok : FzOk fzB := by
  intro K H xs ys l hH hr he
  refine (mapO_repL (K' := ⟨K.w, K.Z, fun g => g < K.w.heap.size, noMu⟩) (fun x y v hy hx => frz_spec (K' := ⟨K.w, K.Z, fun g => g < K.w.heap.size, noMu⟩) (.inl rfl) hH rfl (fun g hg => hg) (fun g hg => .inr (hH.lt g (.inr hg))) (fun g hg => .inr ⟨rfl, hH.live_lt hg⟩) 64 x y v hy hx) he hr).1

/-! ### The equality of values -/
mutual
def PV.beq : PV → PV → Bool
  | .undef, y => (match y with | .undef => true | _ => false)
  | .bool a, y => (match y with | .bool b => a == b | _ => false)
  | .int k a, y => (match y with | .int k' b => k == k' && a == b | _ => false)
  | .str a, y => (match y with | .str b => a.data == b.data | _ => false)
  | .list n s xs, y => (match y with | .list n' s' ys => n == n' && s == s' && PV.beqL xs ys | _ => false)
  | .msl p b g o l s, y => (match y with | .msl p' b' g' o' l' s' => p == p' && b == b' && g == g' && o == o' && l == l' && s == s' | _ => false)
  | .pptr b xs o, y => (match y with | .pptr b' ys o' => b == b' && o == o' && PV.beqL xs ys | _ => false)
  | .mptr b g o, y => (match y with | .mptr b' g' o' => b == b' && g == g' && o == o' | _ => false)
  | .nilptr, y => (match y with | .nilptr => true | _ => false)
  | .clo fn f c, y => (match y with | .clo fn' f' c' => fn == fn' && PV.beqL f f' && PV.beqL c c' | _ => false)
  | .nilfn, y => (match y with | .nilfn => true | _ => false)
  | .iface t x, y => (match y with | .iface t' y => t == t' && PV.beq x y | _ => false)
  | .nilif, y => (match y with | .nilif => true | _ => false)
  | .agg xs, y => (match y with | .agg ys => PV.beqL xs ys | _ => false)
  | .tup xs, y => (match y with | .tup ys => PV.beqL xs ys | _ => false)
  | .fmap b kn ks vs, y => (match y with | .fmap b' kn' ks' vs' => b == b' && kn == kn' && PV.beqL ks ks' && PV.beqL vs vs' | _ => false)
  | .mmap b, y => (match y with | .mmap b' => b == b' | _ => false)
  | .nilmap, y => (match y with | .nilmap => true | _ => false)
  | .stp b k, y => (match y with | .stp b' k' => b == b' && PV.beq k k' | _ => false)
def PV.beqL : List PV → List PV → Bool
  | [], ys => ys.isEmpty
  | x :: xs, ys => (match ys with | y :: ys => PV.beq x y && PV.beqL xs ys | [] => false)
end
theorem ba_eq {a b : ByteArray} (h : (a.data == b.data) = true) : a = b := by
  cases a; cases b
  exact congrArg ByteArray.mk (eq_of_beq h)
mutual
theorem PV.beq_eq : ∀ (x y : PV), PV.beq x y = true → x = y
  | .undef, y, h => by unfold PV.beq at h; split at h <;> first | rfl | cases h
  | .bool a, y, h => by
    unfold PV.beq at h; split at h
    · rw [eq_of_beq h]
    · cases h
  | .int k a, y, h => by
    unfold PV.beq at h; split at h
    · simp only [Bool.and_eq_true, beq_iff_eq] at h; rw [h.1, h.2]
    · cases h
  | .str a, y, h => by
    unfold PV.beq at h; split at h
    · rw [ba_eq h]
    · cases h
  | .list n s xs, y, h => by
    unfold PV.beq at h; split at h
    · simp only [Bool.and_eq_true, beq_iff_eq] at h; rw [h.1.1, h.1.2, PV.beqL_eq _ _ h.2]
    · cases h
  | .msl p b g o l s, y, h => by
    unfold PV.beq at h; split at h
    · simp only [Bool.and_eq_true, beq_iff_eq] at h
      obtain ⟨⟨⟨⟨⟨rfl, rfl⟩, rfl⟩, rfl⟩, rfl⟩, rfl⟩ := h
      rfl
    · cases h
  | .pptr b xs o, y, h => by
    unfold PV.beq at h; split at h
    · simp only [Bool.and_eq_true, beq_iff_eq] at h; rw [h.1.1, h.1.2, PV.beqL_eq _ _ h.2]
    · cases h
  | .mptr b g o, y, h => by
    unfold PV.beq at h; split at h
    · simp only [Bool.and_eq_true, beq_iff_eq] at h; rw [h.1.1, h.1.2, h.2]
    · cases h
  | .nilptr, y, h => by unfold PV.beq at h; split at h <;> first | rfl | cases h
  | .clo fn f c, y, h => by
    unfold PV.beq at h; split at h
    · simp only [Bool.and_eq_true, beq_iff_eq] at h; rw [h.1.1, PV.beqL_eq _ _ h.1.2, PV.beqL_eq _ _ h.2]
    · cases h
  | .nilfn, y, h => by unfold PV.beq at h; split at h <;> first | rfl | cases h
  | .iface t x, y, h => by
    unfold PV.beq at h; split at h
    · simp only [Bool.and_eq_true, beq_iff_eq] at h; rw [h.1, PV.beq_eq _ _ h.2]
    · cases h
  | .nilif, y, h => by unfold PV.beq at h; split at h <;> first | rfl | cases h
  | .agg xs, y, h => by
    unfold PV.beq at h; split at h
    · rw [PV.beqL_eq _ _ h]
    · cases h
  | .tup xs, y, h => by
    unfold PV.beq at h; split at h
    · rw [PV.beqL_eq _ _ h]
    · cases h
  | .fmap b kn ks vs, y, h => by
    unfold PV.beq at h; split at h
    · simp only [Bool.and_eq_true, beq_iff_eq] at h; rw [h.1.1.1, h.1.1.2, PV.beqL_eq _ _ h.1.2, PV.beqL_eq _ _ h.2]
    · cases h
  | .mmap b, y, h => by
    unfold PV.beq at h; split at h
    · rw [eq_of_beq h]
    · cases h
  | .nilmap, y, h => by unfold PV.beq at h; split at h <;> first | rfl | cases h
  | .stp b k, y, h => by
    unfold PV.beq at h; split at h
    · simp only [Bool.and_eq_true, beq_iff_eq] at h; rw [h.1, PV.beq_eq _ _ h.2]
    · cases h
theorem PV.beqL_eq : ∀ (xs ys : List PV), PV.beqL xs ys = true → xs = ys
  | [], ys, h => by unfold PV.beqL at h; rw [List.isEmpty_iff.1 h]
  | x :: xs, ys, h => by
    unfold PV.beqL at h; split at h
    · simp only [Bool.and_eq_true] at h; rw [PV.beq_eq _ _ h.1, PV.beqL_eq _ _ h.2]
    · cases h
end
mutual
theorem PV.beq_refl : ∀ x : PV, PV.beq x x = true
  | .undef => rfl
  | .bool a => by simp [PV.beq]
  | .int k a => by simp [PV.beq]
  | .str a => by simp [PV.beq]
  | .list n s xs => by simp [PV.beq, PV.beqL_refl xs]
  | .msl .. => by simp [PV.beq]
  | .pptr b xs o => by simp [PV.beq, PV.beqL_refl xs]
  | .mptr .. => by simp [PV.beq]
  | .nilptr => rfl
  | .clo fn f c => by simp [PV.beq, PV.beqL_refl f, PV.beqL_refl c]
  | .nilfn => rfl
  | .iface t x => by simp [PV.beq, PV.beq_refl x]
  | .nilif => rfl
  | .agg xs => by simp [PV.beq, PV.beqL_refl xs]
  | .tup xs => by simp [PV.beq, PV.beqL_refl xs]
  | .fmap b kn ks vs => by simp [PV.beq, PV.beqL_refl ks, PV.beqL_refl vs]
  | .mmap b => by simp [PV.beq]
  | .nilmap => rfl
  | .stp b k => by simp [PV.beq, PV.beq_refl k]
theorem PV.beqL_refl : ∀ xs : List PV, PV.beqL xs xs = true
  | [] => rfl
  | x :: xs => by simp [PV.beqL, PV.beq_refl x, PV.beqL_refl xs]
end
def optEq (x y : Option PV) : Bool := match x, y with | some x, some y => PV.beq x y | _, _ => false

/-! ### A list of operations -/
structure ROp where
  dst : Option Nat
  guard : Option (Nat × Bool)
  op : POp
  deriving Inhabited

def gd (env : Env) : Option (Nat × Bool) → Option Bool
  | none => some true
  | some (g, w) => match get env g with | .bool b => some (b == w) | .tup [] => some false | _ => none

section
variable (cp : Nat → List PV → Option PV) (co : Nat → List PV → Hp → Option (PV × Hp)) (fz : Hp → List PV → Option (List PV)) (meth : Nat → String → Option Nat)
def runSeq : List ROp → Env → Hp → Option (Env × Hp)
  | [], env, H => some (env, H)
  | r :: rs, env, H => (gd env r.guard).bind fun b => if b then (evOp cp co fz meth env H r.op).bind fun q => runSeq rs (put env r.dst q.1) q.2 else runSeq rs (put env r.dst (.tup [])) H
end

def guardOk (ops : Array Oper) : Option (Nat × Bool) → Option (Nat × Bool) → Bool
  | none, none => true
  | some (j, w), some (g, w') => w == w' && (match ops[j]? with | some o => o.dst == some g | none => false)
  | _, _ => false
def ropOk (P : Program) (N : Nat) (ops : Array Oper) (o : Oper) (r : ROp) : Bool :=
  opOk P o.op r.op && o.dst == r.dst && (match r.dst with | some d => decide (d < N) | none => true) && guardOk ops o.guard r.guard
def ropsOk (P : Program) (N : Nat) (ops : Array Oper) : List Oper → List ROp → Bool
  | [], [] => true
  | o :: os, r :: rs => ropOk P N ops o r && ropsOk P N ops os rs
  | _, _ => false

section
variable {P : Program} {cp : Nat → List PV → Option PV} {co : Nat → List PV → Hp → Option (PV × Hp)} {fz : Hp → List PV → Option (List PV)} {meth : Nat → String → Option Nat}

theorem wanted_ok {K : KW} {N : Nat} {env : Env} {a : Act} {ops : Array Oper} {o : Oper} {g : Option (Nat × Bool)} {b : Bool} (hg : guardOk ops o.guard g = true) (hE : ERel K N env a) (he : gd env g = some b) : Region.wanted o (yielded ops a.tmps) = b := by
  unfold Region.wanted
  cases hgd : o.guard with
  | none =>
    rw [hgd] at hg
    cases g with
    | none => simp only [gd, Option.some.injEq] at he; exact he
    | some q => simp [guardOk] at hg
  | some jw =>
    obtain ⟨j, w⟩ := jw
    rw [hgd] at hg
    cases g with
    | none => simp [guardOk] at hg
    | some q =>
      obtain ⟨d, w'⟩ := q
      simp only [guardOk, Bool.and_eq_true, beq_iff_eq] at hg
      obtain ⟨rfl, hg⟩ := hg
      split at hg
      · rename_i oj hoj
        have hd : oj.dst = some d := by simpa using hg
        have hs := hE.slot d
        simp only [gd] at he
        have hy1 : ∀ bb, a.tmps[d]? = some (.bool bb) → yielded ops a.tmps j = some bb := fun bb h => by simp [yielded, hoj, hd, h]
        have hy2 : (∀ bb, a.tmps[d]? ≠ some (.bool bb)) → yielded ops a.tmps j = none := fun h => by
          cases hq : a.tmps[d]? with
          | none => simp [yielded, hoj, hd, hq]
          | some u => cases u <;> first | (exact absurd hq (h _)) | simp [yielded, hoj, hd, hq]
        split at he
        · rename_i bb hbb
          simp only [Option.some.injEq] at he
          rw [hbb] at hs
          have hs' : a.tmps.getD d Go.undef = .bool bb := hs
          have : a.tmps[d]? = some (.bool bb) := by
            cases hq : a.tmps[d]? with
            | none => simp [hq, Go.undef] at hs'
            | some u => simp [hq] at hs'; rw [hs']
          simp only [hy1 bb this]
          simpa using he
        · rename_i hbb
          simp only [Option.some.injEq] at he
          rw [hbb] at hs
          obtain ⟨ys, hs', hl⟩ := hs
          simp only [hy2 (fun bb hq => by
            simp [hq] at hs')]
          simpa using he
        · cases he
      · cases hg

theorem rep_skip (K : KW) : Rep K (.tup []) Go.undef := ⟨#[], rfl, rfl⟩

theorem seq_ok (hcp : ∀ f args r, cp f args = some r → PureOk P f args r) (hco : ∀ f args H r H', co f args H = some (r, H') → OpenOk P f args H r H') (hfz : FzOk fz) (hm : MethOk P meth) {ro : Option Nat} {N : Nat} {ops : Array Oper} {Q : Exit → Act → World → Prop} :
    ∀ (os : List Oper) (rs : List ROp) (i : Nat) (K : KW) (H : Hp) (env : Env) (a : Act) (env' : Env) (H' : Hp), (∀ j o, os[j]? = some o → ops[i + j]? = some o) → ropsOk P N ops os rs = true → HRel K H → ERel K N env a →
      runSeq cp co fz meth rs env H = some (env', H') → (∀ K' a', Ext K H K' H' → HRel K' H' → ERel K' N env' a' → a'.defers = a.defers → Q .normal a' K'.w) → wpOpsIn (fc ro) 0 P ops Q ((List.range os.length).map (i + ·)) a K.w
  | [], rs, i, K, H, env, a, env', H', hops, hok, hH, hE, he, hQ => by
    cases rs with
    | cons r rs => simp [ropsOk] at hok
    | nil =>
      simp only [runSeq, Option.some.injEq, Prod.mk.injEq] at he
      obtain ⟨rfl, rfl⟩ := he
      simpa [wpOpsIn] using hQ K a (Ext.refl _ _) hH hE rfl
  | o :: os, rs, i, K, H, env, a, env', H', hops, hok, hH, hE, he, hQ => by
    cases rs with
    | nil => simp [ropsOk] at hok
    | cons r rs =>
      simp only [ropsOk, Bool.and_eq_true] at hok
      obtain ⟨hr, hok⟩ := hok
      simp only [ropOk, Bool.and_eq_true, beq_iff_eq] at hr
      obtain ⟨⟨⟨h1, h2⟩, h3⟩, h4⟩ := hr
      have hd : ∀ x, r.dst = some x → x < N := by
        intro x hx
        rw [hx] at h3
        simpa using h3
      have hoi : ops[i]? = some o := by simpa using hops 0 o (by simp)
      have hidx : (List.range (o :: os).length).map (i + ·) = i :: (List.range os.length).map (i + 1 + ·) := by
        rw [List.length_cons, List.range_succ_eq_map, List.map_cons, List.map_map, Nat.add_zero]
        congr 1
        apply List.map_congr_left
        intro j _
        simp; omega
      rw [hidx, wpOpsIn_cons]
      unfold wpOpIn
      simp only [hoi]
      simp only [runSeq, Option.bind_eq_some_iff] at he
      obtain ⟨b, hb, he⟩ := he
      have hw := wanted_ok h4 hE hb
      have hops' : ∀ j o', os[j]? = some o' → ops[i + 1 + j]? = some o' := fun j o' hj => by
        have := hops (j + 1) o' (by simpa using hj)
        rwa [show i + (j + 1) = i + 1 + j from by omega] at this
      cases b
      · rw [hw]
        simp only [Bool.false_eq_true, if_false] at he ⊢
        rw [h2]
        exact ⟨fun _ _ => trivial, seq_ok hcp hco hfz hm os rs (i + 1) K H _ _ env' H' hops' hok hH (hE.put hd (rep_skip K)) he (fun K' a' h1 h2 h3 h4 => hQ K' a' h1 h2 h3 (h4.trans (put_defers _ _ _)))⟩
      · rw [hw]
        simp only [if_true, Option.bind_eq_some_iff] at he ⊢
        obtain ⟨⟨v, H1⟩, hv, he⟩ := he
        refine evOp_ok hcp hco hfz hm h1 hE hH hv ro _ _ (fun K1 rv hX hH1 hrv => ?_)
        rw [h2]
        exact seq_ok hcp hco hfz hm os rs (i + 1) K1 H1 _ _ env' H' hops' hok hH1 ((hE.mono hX.le).put hd hrv) he (fun K' a' hX' h2 h3 h4 => hQ K' a' (hX.trans hX') h2 h3 (h4.trans (put_defers _ _ _)))

theorem region_ok (hcp : ∀ f args r, cp f args = some r → PureOk P f args r) (hco : ∀ f args H r H', co f args H = some (r, H') → OpenOk P f args H r H') (hfz : FzOk fz) (hm : MethOk P meth) {ro : Option Nat} {N id : Nat} {ops : Array Oper} {Q : Exit → Act → World → Prop}
    {rs : List ROp} {K : KW} {H : Hp} {env : Env} {a : Act} {env' : Env} {H' : Hp} (hok : ropsOk P N ops ops.toList rs = true) (hH : HRel K H) (hE : ERel K N env a) (he : runSeq cp co fz meth rs env H = some (env', H'))
    (hQ : ∀ K' a', Ext K H K' H' → HRel K' H' → ERel K' N env' a' → a'.defers = a.defers → Q .normal a' K'.w) : (Code.region id ops false).wpIn (fc ro) 0 P Q a K.w := by
  refine wpIn_region ?_
  have := seq_ok hcp hco hfz hm (ro := ro) (Q := Q) ops.toList rs 0 K H env a env' H' (fun j o hj => by simpa using hj) hok hH hE he hQ
  simpa using this
end
end Go.Proofs.Ytmbknidfkddpfaa.PM
