/- The pure machine, part 1: values by value, what they stand for in a world, and how that lasts. -/
import Derived.Calls
import Derived.Orders
import Derived.Below
import Derived.Laws.OwnMore
import Derived.MapKept
set_option linter.unusedVariables false
set_option linter.unusedSimpArgs false
namespace Go.Proofs.Ytmbknidfkddpfaa.PM
open Go.MapKept (Stamped)

/-- What is known of a slice that is held by value: the nil one; capacity is length; any; borrowed from a block that may be written later. -/
inductive Nl where
  | nil | ex | any | bor
  deriving DecidableEq, Repr, Inhabited

inductive PV where
  | undef
  | bool (b : Bool)
  | int (k : IntKind) (n : Int)
  | str (s : ByteArray)
  | list (nl : Nl) (sz : Nat) (xs : List PV)
  | msl (ap : Bool) (b gen off len sz : Nat)
  | pptr (bor : Bool) (xs : List PV) (off : Nat)
  | mptr (b gen off : Nat)
  | nilptr
  | clo (fn : Fn) (first captured : List PV)
  | nilfn
  | iface (t : TypeId) (v : PV)
  | nilif
  | agg (xs : List PV)
  | tup (xs : List PV)
  /-- A map that nobody writes (or that is borrowed): keys and values. -/
  | fmap (bor : Bool) (kn : Option Nat) (ks vs : List PV)
  /-- A map of the small heap. -/
  | mmap (b : Nat)
  | nilmap
  /-- The stamp of a map's entry. -/
  | stp (b : Nat) (k : PV)
  deriving Inhabited

mutual
/-- Nothing in it refers to a block that may still be written; nothing in it is borrowed. -/
def PV.clean : PV → Prop
  | .list nl _ xs => nl ≠ .bor ∧ PV.cleanL xs
  | .msl .. => False
  | .pptr b xs _ => b = false ∧ PV.cleanL xs
  | .mptr .. => False
  | .clo _ f c => PV.cleanL f ∧ PV.cleanL c
  | .iface _ v => v.clean
  | .agg xs => PV.cleanL xs
  | .tup xs => PV.cleanL xs
  | .fmap b _ _ vs => b = false ∧ PV.cleanL vs
  | .mmap _ => False
  | .stp .. => False
  | _ => True
def PV.cleanL : List PV → Prop
  | [] => True
  | x :: xs => x.clean ∧ PV.cleanL xs
end
mutual
/-- Nothing in it refers to a block that may still be written by this activation. -/
def PV.pure : PV → Prop
  | .list _ _ xs => PV.pureL xs
  | .msl .. => False
  | .pptr _ xs _ => PV.pureL xs
  | .mptr .. => False
  | .clo _ f c => PV.pureL f ∧ PV.pureL c
  | .iface _ v => v.pure
  | .agg xs => PV.pureL xs
  | .tup xs => PV.pureL xs
  | .fmap _ _ _ vs => PV.pureL vs
  | .mmap _ => False
  | .stp .. => False
  | _ => True
def PV.pureL : List PV → Prop
  | [] => True
  | x :: xs => x.pure ∧ PV.pureL xs
end
mutual
/-- The same, looking at slices from outside. -/
def PV.cleanB : PV → Bool
  | .list nl _ _ => nl != .bor
  | .msl .. => false
  | .pptr b _ _ => !b
  | .mptr .. => false
  | .clo _ f c => PV.cleanLB f && PV.cleanLB c
  | .iface _ v => v.cleanB
  | .agg xs => PV.cleanLB xs
  | .tup xs => PV.cleanLB xs
  | .fmap b _ _ _ => !b
  | .mmap _ => false
  | .stp .. => false
  | _ => true
def PV.cleanLB : List PV → Bool
  | [] => true
  | x :: xs => x.cleanB && PV.cleanLB xs
end
mutual
def PV.pureB : PV → Bool
  | .list _ _ _ => true
  | .msl .. => false
  | .pptr _ _ _ => true
  | .mptr .. => false
  | .clo _ f c => PV.pureLB f && PV.pureLB c
  | .iface _ v => v.pureB
  | .agg xs => PV.pureLB xs
  | .tup xs => PV.pureLB xs
  | .mmap _ => false
  | .stp .. => false
  | _ => true
def PV.pureLB : List PV → Bool
  | [] => true
  | x :: xs => x.pureB && PV.pureLB xs
end

/-- Lies in one cell. -/
def PV.one : PV → Bool
  | .undef | .agg _ | .tup _ => false
  | _ => true

/-- The cells of a value. -/
def PV.cells : PV → List PV
  | .agg xs => xs
  | x => [x]

mutual
theorem PV.clean_pure : ∀ x : PV, x.clean → x.pure
  | .list nl sz xs, h => PV.cleanL_pureL xs h.2
  | .msl .., h => h.elim
  | .pptr b xs off, h => PV.cleanL_pureL xs h.2
  | .mptr .., h => h.elim
  | .clo fn f c, h => ⟨PV.cleanL_pureL f h.1, PV.cleanL_pureL c h.2⟩
  | .iface t v, h => PV.clean_pure v h
  | .agg xs, h => PV.cleanL_pureL xs h
  | .tup xs, h => PV.cleanL_pureL xs h
  | .fmap b kn ks vs, h => PV.cleanL_pureL vs h.2
  | .mmap _, h => h.elim
  | .stp .., h => h.elim
  | .nilmap, _ => trivial
  | .undef, _ => trivial
  | .bool _, _ => trivial
  | .int _ _, _ => trivial
  | .str _, _ => trivial
  | .nilptr, _ => trivial
  | .nilfn, _ => trivial
  | .nilif, _ => trivial
theorem PV.cleanL_pureL : ∀ xs : List PV, PV.cleanL xs → PV.pureL xs
  | [], _ => trivial
  | x :: xs, h => ⟨PV.clean_pure x h.1, PV.cleanL_pureL xs h.2⟩
end

theorem PV.cleanL_iff {xs : List PV} : PV.cleanL xs ↔ ∀ x ∈ xs, x.clean := by
  induction xs with
  | nil => simp [PV.cleanL]
  | cons x xs ih => simp [PV.cleanL, ih]
theorem PV.pureL_iff {xs : List PV} : PV.pureL xs ↔ ∀ x ∈ xs, x.pure := by
  induction xs with
  | nil => simp [PV.pureL]
  | cons x xs ih => simp [PV.pureL, ih]

/-- A map's key: a number (none), or a row of n numbers. -/
def keyB : Option Nat → PV → Bool
  | none, .int .i64 _ => true
  | some n, .agg xs => xs.length == n && xs.all fun x => match x with | .int .i64 _ => true | _ => false
  | _, _ => false
def kval1 : PV → Value
  | .int k n => .int k n
  | _ => .bool false
/-- The value of a key. -/
def kval : PV → Value
  | .agg xs => .agg (xs.map kval1).toArray
  | x => kval1 x
/-- Entries of maps stay, with their stamps. -/
def MapsKeep (w w' : World) : Prop := ∀ (g : Nat) (es : Array MapEntry) (clock : Nat), w.heap[g]? = some (Obj.map es clock) →
  ∃ es' clock', w'.heap[g]? = some (Obj.map es' clock') ∧ ∀ e ∈ es.toList, ∃ e' ∈ es'.toList, e'.born = e.born ∧ e'.key = e.key
theorem MapsKeep.refl (w : World) : MapsKeep w w := fun _ es clock h => ⟨es, clock, h, fun e he => ⟨e, he, rfl, rfl⟩⟩
theorem MapsKeep.trans {a b c : World} (h : MapsKeep a b) (k : MapsKeep b c) : MapsKeep a c := fun g es clock hg => by
  obtain ⟨es1, c1, h1, h2⟩ := h g es clock hg
  obtain ⟨es2, c2, h3, h4⟩ := k g es1 c1 h1
  refine ⟨es2, c2, h3, fun e he => ?_⟩
  obtain ⟨e1, he1, q1, q2⟩ := h2 e he
  obtain ⟨e2, he2, r1, r2⟩ := h4 e1 he1
  exact ⟨e2, he2, r1.trans q1, r2.trans q2⟩
/-- All blocks as they were, but perhaps one that is no map. -/
theorem MapsKeep.of_same {w w' : World} (h : ∀ (g : Nat) (es : Array MapEntry) (clock : Nat), w.heap[g]? = some (Obj.map es clock) → w'.heap[g]? = w.heap[g]?) : MapsKeep w w' := fun g es clock hg =>
  ⟨es, clock, (h g es clock hg).trans hg, fun e he => ⟨e, he, rfl, rfl⟩⟩

/-- A world, the blocks that will not be written any more (Z), those that will not be written during this activation (Y), and the real blocks (with their sizes) of the small heap's blocks. -/
structure KW where
  w : World
  Z : Nat → Prop
  Y : Nat → Prop
  μ : Nat → Nat → Option (Nat × Nat)

def KW.S (K : KW) (bor : Bool) (g : Nat) : Prop := K.Z g ∨ (bor = true ∧ K.Y g)

def nlOk : Nl → Option Addr → Nat → Nat → Prop
  | .nil, a, n, c => a = none ∧ n = 0 ∧ c = 0
  | .ex, _, n, c => c = n
  | _, _, n, c => n ≤ c

mutual
/-- What a value by value stands for. -/
def Rep (K : KW) : PV → Value → Prop
  | .undef, _ => True
  | .bool b, v => v = .bool b
  | .int k n, v => v = .int k n
  | .str s, v => v = .string s
  | .list nl sz xs, v => 0 < sz ∧ (if nl = .bor then PV.pureL xs else PV.cleanL xs) ∧ ∃ a n c, v = .slice a n c ∧ xs.length = n * sz ∧ nlOk nl a n c ∧
      (xs = [] ∨ ∃ g o, a = some ⟨g, o, none⟩ ∧ K.S (nl = .bor) g ∧ RepRow K xs g o)
  | .msl ap b gen off len sz, v => 0 < sz ∧ ((len = 0 ∧ ((off = 0 ∧ v = .slice none 0 0) ∨ (off ≠ 0 ∧ ∃ a c, v = .slice a 0 c))) ∨
      ∃ g n c, K.μ b gen = some (g, n) ∧ v = .slice (some ⟨g, off, none⟩) len c ∧ len ≤ c ∧ (ap = true → n = off + c * sz ∧ c ≤ maxLen))
  | .pptr bor xs off, v => (if bor = true then PV.pureL xs else PV.cleanL xs) ∧ off ≤ xs.length ∧ ∃ g o, v = .pointer (some ⟨g, o + off, none⟩) ∧ K.S bor g ∧ RepRow K xs g o
  | .mptr b gen off, v => ∃ g n, K.μ b gen = some (g, n) ∧ v = .pointer (some ⟨g, off, none⟩)
  | .nilptr, v => v = .pointer none
  | .clo fn f c, v => ∃ f' c', v = .func fn f' c' ∧ RepL K f f'.toList ∧ RepL K c c'.toList
  | .nilfn, v => v = .nilFunc
  | .iface t x, v => ∃ y, v = .iface t y ∧ Rep K x y
  | .nilif, v => v = .nilIface
  | .agg xs, v => ∃ ys, v = .agg ys ∧ RepL K xs ys.toList
  | .tup xs, v => ∃ ys, v = .tuple ys ∧ RepL K xs ys.toList
  | .fmap bor kn ks vs, v => (if bor = true then PV.pureL vs else PV.cleanL vs) ∧ (∀ k ∈ ks, keyB kn k = true) ∧ ∃ g es clock es', v = .map (some g) ∧ K.S bor g ∧ K.w.heap[g]? = some (Obj.map es clock) ∧ Stamped es clock ∧
      es.toList.Perm es' ∧ es'.map (·.key) = ks.map kval ∧ RepL K vs (es'.map (·.val))
  | .mmap b, v => ∃ g n, K.μ b 0 = some (g, n) ∧ v = .map (some g)
  | .nilmap, v => v = .map none
  | .stp b k, v => ∃ g n es clock e, K.μ b 0 = some (g, n) ∧ K.w.heap[g]? = some (Obj.map es clock) ∧ e ∈ es.toList ∧ e.key = kval k ∧ v = goInt e.born
def RepL (K : KW) : List PV → List Value → Prop
  | [], l => l = []
  | x :: xs, l => ∃ y ys, l = y :: ys ∧ Rep K x y ∧ RepL K xs ys
def RepRow (K : KW) : List PV → Nat → Nat → Prop
  | [], _, _ => True
  | x :: xs, g, o => (∃ v, K.w.cell? ⟨g, o, none⟩ = some v ∧ v.oneCell' = true ∧ x.one = true ∧ Rep K x v) ∧ RepRow K xs g (o + 1)
end

/-- How a world may go on. -/
structure KW.Le (K K' : KW) : Prop where
  os : K'.w.os = K.w.os
  tape : K'.w.tape = K.w.tape
  output : K'.w.output = K.w.output
  size : K.w.heap.size ≤ K'.w.heap.size
  keep : ∀ g, K.Z g ∨ K.Y g → K'.w.heap[g]? = K.w.heap[g]?
  z : ∀ g, K.Z g → K'.Z g
  y : ∀ g, K.Y g → K'.Y g
  mu : ∀ b n p, K.μ b n = some p → K'.μ b n = some p
  maps : MapsKeep K.w K'.w

theorem KW.Le.refl (K : KW) : K.Le K := ⟨rfl, rfl, rfl, Nat.le_refl _, fun _ _ => rfl, fun _ h => h, fun _ h => h, fun _ _ _ h => h, MapsKeep.refl _⟩
theorem KW.Le.trans {A B C : KW} (h : A.Le B) (k : B.Le C) : A.Le C :=
  ⟨k.os.trans h.os, k.tape.trans h.tape, k.output.trans h.output, Nat.le_trans h.size k.size,
    fun g hg => (k.keep g (hg.imp (h.z g) (h.y g))).trans (h.keep g hg), fun g hg => k.z g (h.z g hg), fun g hg => k.y g (h.y g hg), fun b n p hp => k.mu b n p (h.mu b n p hp), h.maps.trans k.maps⟩

mutual
/-- From one world to another: what is clean asks for Z alone, what is pure does not ask for the small heap. -/
theorem Rep.move {K K' : KW} {A B : Prop} (hZ : ∀ g, K.Z g → K'.Z g ∧ K'.w.heap[g]? = K.w.heap[g]?)
    (hY : A → ∀ g, K.Y g → (K'.Z g ∨ K'.Y g) ∧ K'.w.heap[g]? = K.w.heap[g]?) (hμ : B → ∀ b n p, K.μ b n = some p → K'.μ b n = some p) (hM : B → MapsKeep K.w K'.w) :
    ∀ (x : PV) (v : Value), (x.clean ∨ A) → (x.pure ∨ B) → Rep K x v → Rep K' x v
  | .undef, _, _, _, _ => trivial
  | .bool _, _, _, _, h => h
  | .int _ _, _, _, _, h => h
  | .str _, _, _, _, h => h
  | .list nl sz xs, v, hc, hp, h => by
    obtain ⟨h0, hcl, a, n, c, rfl, hl, hn, hr⟩ := h
    refine ⟨h0, hcl, a, n, c, rfl, hl, hn, ?_⟩
    rcases hr with hr | ⟨g, o, ha, hs, hr⟩
    · exact .inl hr
    · have hg : K'.S (nl = .bor) g ∧ K'.w.heap[g]? = K.w.heap[g]? := by
        rcases hs with hs | ⟨hb, hs⟩
        · exact ⟨.inl (hZ g hs).1, (hZ g hs).2⟩
        · rcases hc with hc | hA
          · exact absurd (of_decide_eq_true hb) hc.1
          · have := hY hA g hs
            exact ⟨this.1.imp id (fun q => ⟨hb, q⟩), this.2⟩
      refine .inr ⟨g, o, ha, hg.1, ?_⟩
      exact RepRow.move hZ hY hμ hM xs g o (hc.imp (fun q => q.2) id) (hp.imp id id) hg.2 hr
  | .msl ap b gen off len sz, v, hc, hp, h => by
    obtain ⟨h0, h⟩ := h
    refine ⟨h0, ?_⟩
    rcases h with h | ⟨g, n, c, hm, hv⟩
    · exact .inl h
    · exact .inr ⟨g, n, c, hμ (hp.resolve_left (fun q => q)) _ _ _ hm, hv⟩
  | .pptr bor xs off, v, hc, hp, h => by
    obtain ⟨hcl, hle, g, o, rfl, hs, hr⟩ := h
    have hg : K'.S bor g ∧ K'.w.heap[g]? = K.w.heap[g]? := by
      rcases hs with hs | ⟨hb, hs⟩
      · exact ⟨.inl (hZ g hs).1, (hZ g hs).2⟩
      · rcases hc with hc | hA
        · exact absurd (hc.1 ▸ hb : false = true) (by simp)
        · have := hY hA g hs
          exact ⟨this.1.imp id (fun q => ⟨hb, q⟩), this.2⟩
    exact ⟨hcl, hle, g, o, rfl, hg.1, RepRow.move hZ hY hμ hM xs g o (hc.imp (fun q => q.2) id) (hp.imp id id) hg.2 hr⟩
  | .mptr b gen off, v, hc, hp, h => by
    obtain ⟨g, n, hm, hv⟩ := h
    exact ⟨g, n, hμ (hp.resolve_left (fun q => q)) _ _ _ hm, hv⟩
  | .nilptr, _, _, _, h => h
  | .clo fn f c, v, hc, hp, h => by
    obtain ⟨f', c', rfl, hf, hcc⟩ := h
    exact ⟨f', c', rfl, RepL.move hZ hY hμ hM f _ (hc.imp (fun q => q.1) id) (hp.imp (fun q => q.1) id) hf, RepL.move hZ hY hμ hM c _ (hc.imp (fun q => q.2) id) (hp.imp (fun q => q.2) id) hcc⟩
  | .nilfn, _, _, _, h => h
  | .iface t x, v, hc, hp, h => by
    obtain ⟨y, rfl, hy⟩ := h
    exact ⟨y, rfl, Rep.move hZ hY hμ hM x y (hc.imp id id) (hp.imp id id) hy⟩
  | .nilif, _, _, _, h => h
  | .agg xs, v, hc, hp, h => by
    obtain ⟨ys, rfl, hy⟩ := h
    exact ⟨ys, rfl, RepL.move hZ hY hμ hM xs _ (hc.imp id id) (hp.imp id id) hy⟩
  | .tup xs, v, hc, hp, h => by
    obtain ⟨ys, rfl, hy⟩ := h
    exact ⟨ys, rfl, RepL.move hZ hY hμ hM xs _ (hc.imp id id) (hp.imp id id) hy⟩
  | .fmap bor kn ks vs, v, hc, hp, h => by
    obtain ⟨hcl, hk, g, es, clock, es', rfl, hs, hh, hst, hpm, hks, hvs⟩ := h
    have hg : K'.S bor g ∧ K'.w.heap[g]? = K.w.heap[g]? := by
      rcases hs with hs | ⟨hb, hs⟩
      · exact ⟨.inl (hZ g hs).1, (hZ g hs).2⟩
      · rcases hc with hc | hA
        · exact absurd (hc.1 ▸ hb : false = true) (by simp)
        · have := hY hA g hs
          exact ⟨this.1.imp id (fun q => ⟨hb, q⟩), this.2⟩
    exact ⟨hcl, hk, g, es, clock, es', rfl, hg.1, hg.2.trans hh, hst, hpm, hks, RepL.move hZ hY hμ hM vs _ (hc.imp (fun q => q.2) id) (hp.imp id id) hvs⟩
  | .mmap b, v, hc, hp, h => by
    obtain ⟨g, n, hm, hv⟩ := h
    exact ⟨g, n, hμ (hp.resolve_left (fun q => q)) _ _ _ hm, hv⟩
  | .nilmap, _, _, _, h => h
  | .stp b k, v, hc, hp, h => by
    obtain ⟨g, n, es, clock, e, hm, hh, he, hk, hv⟩ := h
    have hB := hp.resolve_left (fun q => q)
    obtain ⟨es', clock', hh', hes⟩ := hM hB g es clock hh
    obtain ⟨e', he', hb', hk'⟩ := hes e he
    exact ⟨g, n, es', clock', e', hμ hB _ _ _ hm, hh', he', hk'.trans hk, by rw [hv, hb']⟩
theorem RepL.move {K K' : KW} {A B : Prop} (hZ : ∀ g, K.Z g → K'.Z g ∧ K'.w.heap[g]? = K.w.heap[g]?)
    (hY : A → ∀ g, K.Y g → (K'.Z g ∨ K'.Y g) ∧ K'.w.heap[g]? = K.w.heap[g]?) (hμ : B → ∀ b n p, K.μ b n = some p → K'.μ b n = some p) (hM : B → MapsKeep K.w K'.w) :
    ∀ (xs : List PV) (l : List Value), (PV.cleanL xs ∨ A) → (PV.pureL xs ∨ B) → RepL K xs l → RepL K' xs l
  | [], _, _, _, h => h
  | x :: xs, l, hc, hp, h => by
    obtain ⟨y, ys, rfl, hx, hxs⟩ := h
    exact ⟨y, ys, rfl, Rep.move hZ hY hμ hM x y (hc.imp (fun q => q.1) id) (hp.imp (fun q => q.1) id) hx, RepL.move hZ hY hμ hM xs ys (hc.imp (fun q => q.2) id) (hp.imp (fun q => q.2) id) hxs⟩
theorem RepRow.move {K K' : KW} {A B : Prop} (hZ : ∀ g, K.Z g → K'.Z g ∧ K'.w.heap[g]? = K.w.heap[g]?)
    (hY : A → ∀ g, K.Y g → (K'.Z g ∨ K'.Y g) ∧ K'.w.heap[g]? = K.w.heap[g]?) (hμ : B → ∀ b n p, K.μ b n = some p → K'.μ b n = some p) (hM : B → MapsKeep K.w K'.w) :
    ∀ (xs : List PV) (g o : Nat), (PV.cleanL xs ∨ A) → (PV.pureL xs ∨ B) → K'.w.heap[g]? = K.w.heap[g]? → RepRow K xs g o → RepRow K' xs g o
  | [], _, _, _, _, _, _ => trivial
  | x :: xs, g, o, hc, hp, hg, h => by
    obtain ⟨⟨v, hv, h1, h2, hx⟩, hxs⟩ := h
    exact ⟨⟨v, (World.cell?_of_block (a := ⟨g, o, none⟩) hg).trans hv, h1, h2, Rep.move hZ hY hμ hM x v (hc.imp (fun q => q.1) id) (hp.imp (fun q => q.1) id) hx⟩,
      RepRow.move hZ hY hμ hM xs g (o + 1) (hc.imp (fun q => q.2) id) (hp.imp (fun q => q.2) id) hg hxs⟩
end

theorem Rep.mono {K K' : KW} (h : K.Le K') {x : PV} {v : Value} (hr : Rep K x v) : Rep K' x v :=
  Rep.move (A := True) (B := True) (fun g hg => ⟨h.z g hg, h.keep g (.inl hg)⟩) (fun _ g hg => ⟨.inr (h.y g hg), h.keep g (.inr hg)⟩) (fun _ => h.mu) (fun _ => h.maps) x v (.inr trivial) (.inr trivial) hr
theorem RepL.mono {K K' : KW} (h : K.Le K') {x : List PV} {v : List Value} (hr : RepL K x v) : RepL K' x v :=
  RepL.move (A := True) (B := True) (fun g hg => ⟨h.z g hg, h.keep g (.inl hg)⟩) (fun _ g hg => ⟨.inr (h.y g hg), h.keep g (.inr hg)⟩) (fun _ => h.mu) (fun _ => h.maps) x v (.inr trivial) (.inr trivial) hr

theorem RepL.length {K : KW} : ∀ {xs : List PV} {l : List Value}, RepL K xs l → xs.length = l.length
  | [], _, h => by rw [show _ = [] from h]; rfl
  | _ :: _, _, ⟨_, _, e, _, h⟩ => by rw [e]; simp [RepL.length h]
theorem RepL.get {K : KW} : ∀ {xs : List PV} {l : List Value}, RepL K xs l → ∀ (i : Nat) (x : PV), xs[i]? = some x → ∃ v, l[i]? = some v ∧ Rep K x v
  | [], _, _, _, _, h => by simp at h
  | _ :: _, _, ⟨y, ys, e, hx, hxs⟩, 0, x, h => by
    subst e
    simp at h
    subst h
    exact ⟨y, by simp, hx⟩
  | _ :: _, _, ⟨y, ys, e, hx, hxs⟩, i + 1, x, h => by
    subst e
    simp at h
    simpa using RepL.get hxs i x h
theorem RepL.of {K : KW} : ∀ {xs : List PV} {l : List Value}, xs.length = l.length → (∀ (i : Nat) (x : PV) (v : Value), xs[i]? = some x → l[i]? = some v → Rep K x v) → RepL K xs l
  | [], [], _, _ => rfl
  | [], _ :: _, h, _ => by simp at h
  | _ :: _, [], h, _ => by simp at h
  | x :: xs, y :: ys, h, H => ⟨y, ys, rfl, H 0 x y (by simp) (by simp), RepL.of (by simpa using h) (fun i x v hx hv => H (i + 1) x v (by simpa using hx) (by simpa using hv))⟩
theorem RepL.nil {K : KW} : RepL K [] [] := rfl
theorem RepL.append {K : KW} {xs ys : List PV} {l m : List Value} (h : RepL K xs l) (k : RepL K ys m) : RepL K (xs ++ ys) (l ++ m) := by
  induction xs generalizing l with
  | nil => rw [show l = [] from h]; exact k
  | cons x xs ih =>
    obtain ⟨y, ys', rfl, hx, hxs⟩ := h
    exact ⟨y, ys' ++ m, rfl, hx, ih hxs⟩
theorem RepL.drop {K : KW} {xs : List PV} {l : List Value} (h : RepL K xs l) (n : Nat) : RepL K (xs.drop n) (l.drop n) := by
  induction n generalizing xs l with
  | zero => simpa using h
  | succ n ih =>
    cases xs with
    | nil => rw [show l = [] from h]; exact rfl
    | cons x xs =>
      obtain ⟨y, ys', rfl, hx, hxs⟩ := h
      simpa using ih hxs
theorem RepL.take {K : KW} {xs : List PV} {l : List Value} (h : RepL K xs l) (n : Nat) : RepL K (xs.take n) (l.take n) := by
  induction n generalizing xs l with
  | zero => simp [RepL]
  | succ n ih =>
    cases xs with
    | nil => rw [show l = [] from h]; exact rfl
    | cons x xs =>
      obtain ⟨y, ys', rfl, hx, hxs⟩ := h
      exact ⟨y, ys'.take n, by simp, hx, ih hxs⟩
theorem RepL.set {K : KW} {xs : List PV} {l : List Value} (h : RepL K xs l) (n : Nat) {x : PV} {v : Value} (hx : Rep K x v) : RepL K (xs.set n x) (l.set n v) := by
  induction xs generalizing l n with
  | nil => rw [show l = [] from h]; simp [RepL]
  | cons y ys ih =>
    obtain ⟨z, zs, rfl, hy, hys⟩ := h
    cases n with
    | zero => exact ⟨v, zs, rfl, hx, hys⟩
    | succ n => exact ⟨z, zs.set n v, rfl, hy, ih hys n⟩

theorem RepRow.get {K : KW} : ∀ {xs : List PV} {g o : Nat}, RepRow K xs g o → ∀ (i : Nat) (x : PV), xs[i]? = some x → ∃ v, K.w.cell? ⟨g, o + i, none⟩ = some v ∧ v.oneCell' = true ∧ x.one = true ∧ Rep K x v
  | [], _, _, _, _, _, h => by simp at h
  | _ :: _, _, _, h, 0, x, hx => by
    simp at hx
    subst hx
    exact h.1
  | _ :: _, g, o, h, i + 1, x, hx => by
    simp at hx
    have := RepRow.get h.2 i x hx
    rwa [show o + (i + 1) = o + 1 + i from by omega]
theorem RepRow.of {K : KW} : ∀ {xs : List PV} {g o : Nat}, (∀ (i : Nat) (x : PV), xs[i]? = some x → ∃ v, K.w.cell? ⟨g, o + i, none⟩ = some v ∧ v.oneCell' = true ∧ x.one = true ∧ Rep K x v) → RepRow K xs g o
  | [], _, _, _ => trivial
  | x :: xs, g, o, H => ⟨H 0 x (by simp), RepRow.of (fun i y hy => by
      have := H (i + 1) y (by simpa using hy)
      rwa [show o + (i + 1) = o + 1 + i from by omega] at this)⟩
theorem RepRow.drop {K : KW} {xs : List PV} {g o : Nat} (h : RepRow K xs g o) (n : Nat) : RepRow K (xs.drop n) g (o + n) :=
  RepRow.of fun i x hx => by
    have := h.get (n + i) x (by simpa using hx)
    rwa [← Nat.add_assoc] at this
theorem RepRow.take {K : KW} {xs : List PV} {g o : Nat} (h : RepRow K xs g o) (n : Nat) : RepRow K (xs.take n) g o :=
  RepRow.of fun i x hx => by
    rw [List.getElem?_take] at hx
    split at hx
    · exact h.get i x hx
    · cases hx
/-- The cells of a row, as values. -/
theorem RepRow.vals {K : KW} : ∀ {xs : List PV} {g o : Nat}, RepRow K xs g o → ∃ l : List Value, RepL K xs l ∧ (∀ v ∈ l, v.oneCell' = true) ∧ ∀ j v, l[j]? = some v → K.w.cell? ⟨g, o + j, none⟩ = some v
  | [], _, _, _ => ⟨[], rfl, by simp, by simp⟩
  | x :: xs, g, o, h => by
    obtain ⟨⟨v, hv, h1, _, hx⟩, hxs⟩ := h
    obtain ⟨l, hl, h1', hc⟩ := RepRow.vals hxs
    refine ⟨v :: l, ⟨v, l, rfl, hx, hl⟩, by simpa using ⟨h1, h1'⟩, ?_⟩
    intro j u hu
    cases j with
    | zero => simp at hu; subst hu; exact hv
    | succ j =>
      simp at hu
      have := hc j u hu
      rwa [show o + (j + 1) = o + 1 + j from by omega]

mutual
theorem Rep.clean_of {K : KW} : ∀ (x : PV) (v : Value), Rep K x v → x.cleanB = true → x.clean
  | .list nl sz xs, v, h, hb => by
    have hn : nl ≠ .bor := by simpa [PV.cleanB] using hb
    have := h.2.1
    rw [if_neg hn] at this
    exact ⟨hn, this⟩
  | .msl .., _, _, hb => by simp [PV.cleanB] at hb
  | .pptr b xs off, v, h, hb => by
    have hn : b = false := by simpa [PV.cleanB] using hb
    have := h.1
    rw [hn] at this
    exact ⟨hn, by simpa using this⟩
  | .mptr .., _, _, hb => by simp [PV.cleanB] at hb
  | .clo fn f c, v, h, hb => by
    obtain ⟨f', c', _, hf, hc⟩ := h
    simp [PV.cleanB] at hb
    exact ⟨RepL.clean_of f _ hf hb.1, RepL.clean_of c _ hc hb.2⟩
  | .iface t x, v, h, hb => by
    obtain ⟨y, _, hy⟩ := h
    exact Rep.clean_of x y hy hb
  | .agg xs, v, h, hb => by
    obtain ⟨ys, _, hy⟩ := h
    exact RepL.clean_of xs _ hy hb
  | .tup xs, v, h, hb => by
    obtain ⟨ys, _, hy⟩ := h
    exact RepL.clean_of xs _ hy hb
  | .fmap b kn ks vs, v, h, hb => by
    have hn : b = false := by simpa [PV.cleanB] using hb
    have := h.1
    rw [hn] at this
    exact ⟨hn, by simpa using this⟩
  | .mmap _, _, _, hb => by simp [PV.cleanB] at hb
  | .stp .., _, _, hb => by simp [PV.cleanB] at hb
  | .nilmap, _, _, _ => trivial
  | .undef, _, _, _ => trivial
  | .bool _, _, _, _ => trivial
  | .int _ _, _, _, _ => trivial
  | .str _, _, _, _ => trivial
  | .nilptr, _, _, _ => trivial
  | .nilfn, _, _, _ => trivial
  | .nilif, _, _, _ => trivial
theorem RepL.clean_of {K : KW} : ∀ (xs : List PV) (l : List Value), RepL K xs l → PV.cleanLB xs = true → PV.cleanL xs
  | [], _, _, _ => trivial
  | x :: xs, l, h, hb => by
    obtain ⟨y, ys, _, hx, hxs⟩ := h
    simp [PV.cleanLB] at hb
    exact ⟨Rep.clean_of x y hx hb.1, RepL.clean_of xs ys hxs hb.2⟩
end
mutual
theorem Rep.pure_of {K : KW} : ∀ (x : PV) (v : Value), Rep K x v → x.pureB = true → x.pure
  | .list nl sz xs, v, h, hb => by
    have := h.2.1
    split at this
    · exact this
    · exact PV.cleanL_pureL _ this
  | .msl .., _, _, hb => by simp [PV.pureB] at hb
  | .pptr b xs off, v, h, hb => by
    have := h.1
    split at this
    · exact this
    · exact PV.cleanL_pureL _ this
  | .mptr .., _, _, hb => by simp [PV.pureB] at hb
  | .clo fn f c, v, h, hb => by
    obtain ⟨f', c', _, hf, hc⟩ := h
    simp [PV.pureB] at hb
    exact ⟨RepL.pure_of f _ hf hb.1, RepL.pure_of c _ hc hb.2⟩
  | .iface t x, v, h, hb => by
    obtain ⟨y, _, hy⟩ := h
    exact Rep.pure_of x y hy hb
  | .agg xs, v, h, hb => by
    obtain ⟨ys, _, hy⟩ := h
    exact RepL.pure_of xs _ hy hb
  | .tup xs, v, h, hb => by
    obtain ⟨ys, _, hy⟩ := h
    exact RepL.pure_of xs _ hy hb
  | .fmap b kn ks vs, v, h, hb => by
    have := h.1
    split at this
    · exact this
    · exact PV.cleanL_pureL _ this
  | .mmap _, _, _, hb => by simp [PV.pureB] at hb
  | .stp .., _, _, hb => by simp [PV.pureB] at hb
  | .nilmap, _, _, _ => trivial
  | .undef, _, _, _ => trivial
  | .bool _, _, _, _ => trivial
  | .int _ _, _, _, _ => trivial
  | .str _, _, _, _ => trivial
  | .nilptr, _, _, _ => trivial
  | .nilfn, _, _, _ => trivial
  | .nilif, _, _, _ => trivial
theorem RepL.pure_of {K : KW} : ∀ (xs : List PV) (l : List Value), RepL K xs l → PV.pureLB xs = true → PV.pureL xs
  | [], _, _, _ => trivial
  | x :: xs, l, h, hb => by
    obtain ⟨y, ys, _, hx, hxs⟩ := h
    simp [PV.pureLB] at hb
    exact ⟨Rep.pure_of x y hx hb.1, RepL.pure_of xs ys hxs hb.2⟩
end
mutual
theorem PV.cleanB_of : ∀ x : PV, x.clean → x.cleanB = true
  | .list nl sz xs, h => by simpa [PV.cleanB] using h.1
  | .msl .., h => h.elim
  | .pptr b xs off, h => by simpa [PV.cleanB] using h.1
  | .mptr .., h => h.elim
  | .clo fn f c, h => by simp [PV.cleanB, PV.cleanLB_of f h.1, PV.cleanLB_of c h.2]
  | .iface t v, h => PV.cleanB_of v h
  | .agg xs, h => PV.cleanLB_of xs h
  | .tup xs, h => PV.cleanLB_of xs h
  | .fmap b kn ks vs, h => by simpa [PV.cleanB] using h.1
  | .mmap _, h => h.elim
  | .stp .., h => h.elim
  | .nilmap, _ => rfl
  | .undef, _ => rfl
  | .bool _, _ => rfl
  | .int _ _, _ => rfl
  | .str _, _ => rfl
  | .nilptr, _ => rfl
  | .nilfn, _ => rfl
  | .nilif, _ => rfl
theorem PV.cleanLB_of : ∀ xs : List PV, PV.cleanL xs → PV.cleanLB xs = true
  | [], _ => rfl
  | x :: xs, h => by simp [PV.cleanLB, PV.cleanB_of x h.1, PV.cleanLB_of xs h.2]
end

/-- A value of one cell. -/
theorem Rep.one {K : KW} {x : PV} {v : Value} (h : Rep K x v) (h1 : x.one = true) : v.oneCell' = true := by
  cases x <;> simp only [PV.one, Bool.false_eq_true] at h1 <;> simp only [Rep] at h
  case bool => subst h; rfl
  case int => subst h; rfl
  case str => subst h; rfl
  case list => obtain ⟨_, _, a, n, c, rfl, _⟩ := h; rfl
  case msl =>
    rcases h with ⟨_, ⟨_, ⟨_, rfl⟩ | ⟨_, a, c, rfl⟩⟩ | ⟨g, n, c, _, rfl, _⟩⟩ <;> rfl
  case pptr => obtain ⟨_, _, g, o, rfl, _⟩ := h; rfl
  case mptr => obtain ⟨g, n, _, rfl⟩ := h; rfl
  case nilptr => subst h; rfl
  case clo => obtain ⟨f, c, rfl, _⟩ := h; rfl
  case nilfn => subst h; rfl
  case iface => obtain ⟨y, rfl, _⟩ := h; rfl
  case nilif => subst h; rfl
  case fmap => obtain ⟨_, _, g, es, clock, es', rfl, _⟩ := h; rfl
  case mmap => obtain ⟨g, n, _, rfl⟩ := h; rfl
  case nilmap => subst h; rfl
  case stp => obtain ⟨g, n, es, clock, e, _, _, _, _, rfl⟩ := h; rfl
theorem Rep.cells {K : KW} {x : PV} {v : Value} (h : Rep K x v) (h1 : x.cells.all PV.one = true) : RepL K x.cells v.cells.toList ∧ ∀ u ∈ v.cells.toList, u.oneCell' = true := by
  by_cases hx : ∃ xs, x = .agg xs
  · obtain ⟨xs, rfl⟩ := hx
    obtain ⟨ys, rfl, hy⟩ := h
    refine ⟨hy, ?_⟩
    intro u hu
    obtain ⟨i, hi, rfl⟩ := List.getElem_of_mem hu
    have hl := hy.length
    have hx : xs[i]? = some (xs[i]'(by simp [Value.cells] at hi; simp only [Array.length_toList] at hl; omega)) := List.getElem?_eq_getElem _
    obtain ⟨v, hv, hr⟩ := hy.get i _ hx
    have : v = (Value.agg ys).cells.toList[i] := by
      simp [Value.cells] at hv ⊢
      have := Array.getElem?_eq_some_iff.1 hv
      exact this.2.symm
    rw [← this]
    refine hr.one ?_
    simp only [PV.cells, List.all_eq_true] at h1
    exact h1 _ (List.getElem_mem _)
  · have hc : x.cells = [x] := by
      cases x <;> first | rfl | exact absurd ⟨_, rfl⟩ hx
    rw [hc] at h1 ⊢
    have h1' : x.one = true := by simpa using h1
    have h2 := h.one h1'
    have hv : v.cells = #[v] := by
      cases v <;> first | rfl | simp [Value.oneCell'] at h2
    rw [hv]
    exact ⟨⟨v, [], rfl, h, rfl⟩, by simpa using h2⟩
end Go.Proofs.Ytmbknidfkddpfaa.PM
