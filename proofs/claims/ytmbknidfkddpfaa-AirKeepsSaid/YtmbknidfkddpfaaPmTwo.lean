/- The pure machine, part 2: the small heap, what it stands for, and its steps. -/
import Derived.Test.YtmbknidfkddpfaaPmOne
import Derived.Laws.IdiomCopy
import Derived.Maps.AppendAt
import Derived.OrdersIn
set_option linter.unusedVariables false
set_option linter.unusedSimpArgs false
namespace Go.Proofs.Ytmbknidfkddpfaa.PM
open Go.MapKept (Stamped)

/-- What a map holds. -/
structure Mp where
  kn : Option Nat
  ks : List PV
  vs : List PV
  deriving Inhabited
structure Blk where
  e : TypeId
  gen : Nat
  xs : List PV
  mp : Option Mp
  deriving Inhabited
/-- A block of cells. -/
@[match_pattern, reducible] def blk (e : TypeId) (gen : Nat) (xs : List PV) : Blk := ⟨e, gen, xs, none⟩
/-- A map's block. -/
@[match_pattern, reducible] def blkM (m : Mp) : Blk := ⟨0, 0, [], some m⟩
abbrev Hp := List Blk

def MapIs (K : KW) (m : Mp) (es : Array MapEntry) (clock : Nat) : Prop :=
  (∀ k ∈ m.ks, keyB m.kn k = true) ∧ Stamped es clock ∧ ∃ es', es.toList.Perm es' ∧ es'.map (·.key) = m.ks.map kval ∧ RepL K m.vs (es'.map (·.val))
theorem MapIs.mono {K K' : KW} (h : K.Le K') {m : Mp} {es : Array MapEntry} {clock : Nat} (hm : MapIs K m es clock) : MapIs K' m es clock := by
  obtain ⟨h1, h2, es', h3, h4, h5⟩ := hm
  exact ⟨h1, h2, es', h3, h4, h5.mono h⟩

structure HRel (K : KW) (H : Hp) : Prop where
  blk : ∀ b B, H[b]? = some B → ((B.xs = [] ∨ B.xs = [.undef]) ∧ B.mp = none ∧ K.μ b B.gen = none) ∨
    (∃ m g es clock, B.xs = [] ∧ B.mp = some m ∧ B.gen = 0 ∧ K.μ b B.gen = some (g, 0) ∧ K.w.heap[g]? = some (.map es clock) ∧ ¬ K.Z g ∧ ¬ K.Y g ∧ MapIs K m es clock) ∨
    ∃ g cur, B.mp = none ∧ K.μ b B.gen = some (g, cur.size) ∧ K.w.heap[g]? = some (.cells cur B.e (0, 0)) ∧ ¬ K.Z g ∧ ¬ K.Y g ∧ B.xs.length ≤ cur.size ∧
      RepL K B.xs (cur.toList.take B.xs.length) ∧ B.xs.all PV.one = true
  inj : ∀ b b' B B' g n n', H[b]? = some B → H[b']? = some B' → K.μ b B.gen = some (g, n) → K.μ b' B'.gen = some (g, n') → b = b'
  fresh : ∀ b gen, (∀ B, H[b]? = some B → B.gen < gen) → K.μ b gen = none
  lt : ∀ g, K.Z g ∨ K.Y g → g < K.w.heap.size

/-- The real blocks that may be written. -/
def Live (K : KW) (H : Hp) (g : Nat) : Prop := ∃ b B n, H[b]? = some B ∧ K.μ b B.gen = some (g, n)

structure Ext (K : KW) (H : Hp) (K' : KW) (H' : Hp) : Prop where
  le : K.Le K'
  frame : ∀ g, g < K.w.heap.size → ¬ Live K H g → K'.w.heap[g]? = K.w.heap[g]?
  live : ∀ g, Live K' H' g → Live K H g ∨ K.w.heap.size ≤ g
  zb : ∀ g, K'.Z g → K.Z g ∨ K.w.heap.size ≤ g
  yb : ∀ g, K'.Y g → K.Y g

theorem Ext.refl (K : KW) (H : Hp) : Ext K H K H := ⟨KW.Le.refl K, fun _ _ _ => rfl, fun _ h => .inl h, fun _ h => .inl h, fun _ h => h⟩
theorem Ext.trans {A B C : KW} {H H' H'' : Hp} (h : Ext A H B H') (k : Ext B H' C H'') : Ext A H C H'' := by
  refine ⟨h.le.trans k.le, fun g hg hl => ?_, fun g hg => ?_, fun g hg => ?_, fun g hg => h.yb g (k.yb g hg)⟩
  · rw [k.frame g (Nat.lt_of_lt_of_le hg h.le.size) (fun q => (h.live g q).elim hl (fun r => absurd hg (by omega))), h.frame g hg hl]
  · rcases k.live g hg with q | q
    · exact h.live g q
    · exact .inr (Nat.le_trans h.le.size q)
  · rcases k.zb g hg with q | q
    · exact h.zb g q
    · exact .inr (Nat.le_trans h.le.size q)

theorem HRel.notLive {K : KW} {H : Hp} (h : HRel K H) {g : Nat} (hg : K.Z g ∨ K.Y g) : ¬ Live K H g := by
  rintro ⟨b, B, n, hb, hm⟩
  rcases h.blk b B hb with ⟨_, _, hn⟩ | ⟨m, g', es, cl, _, _, _, hm', _, hz, hy, _⟩ | ⟨g', cur, _, hm', _, hz, hy, _⟩
  · rw [hm] at hn; cases hn
  · rw [hm] at hm'
    obtain ⟨rfl, _⟩ : g = g' ∧ n = 0 := by simpa using hm'
    exact hg.elim hz hy
  · rw [hm] at hm'
    obtain ⟨rfl, _⟩ : g = g' ∧ n = cur.size := by simpa using hm'
    exact hg.elim hz hy
theorem HRel.live_lt {K : KW} {H : Hp} (h : HRel K H) {g : Nat} (hg : Live K H g) : g < K.w.heap.size := by
  obtain ⟨b, B, n, hb, hm⟩ := hg
  rcases h.blk b B hb with ⟨_, _, hn⟩ | ⟨m, g', es, cl, _, _, _, hm', hh, _⟩ | ⟨g', cur, _, hm', hh, _⟩
  · rw [hm] at hn; cases hn
  · rw [hm] at hm'
    obtain ⟨rfl, _⟩ : g = g' ∧ n = 0 := by simpa using hm'
    exact (Array.getElem?_eq_some_iff.1 hh).1
  · rw [hm] at hm'
    obtain ⟨rfl, _⟩ : g = g' ∧ n = cur.size := by simpa using hm'
    exact (Array.getElem?_eq_some_iff.1 hh).1

/-- The fence that lets all in, in a round's frame or not. -/
def fc (ro : Option Nat) : Fence := { fn := fun _ => True, depth := none, alive := false, round := ro }
theorem comesIn_fc {ro : Option Nat} {P : Program} {m m' : Machine} {e : Ending} (h : Comes P m m' e) : ComesIn (Machine.fenced P (fc ro)) P m m' e := comesIn_wide.2 h
theorem callsIn_fc {ro : Option Nat} {P : Program} {f : FuncId} {args : Array Value} {w : World} {R : Ending → World → Prop} (h : Calls P f args w R) : CallsIn (fc ro) 0 P f args w R :=
  ⟨trivial, fun cs _ => let ⟨e, w', fr, r, s, x⟩ := h cs; ⟨e, w', fr, r, comesIn_fc s, x⟩⟩
theorem semAt_ok {ro : Option Nat} {P : Program} {ρ : Operand → Value} {o : Oper} {w w' : World} {x : Next} (hr : (execOp ρ o).run P w = .ok x w') (hx : ∀ d, x ≠ .defer d) : o.semAt ro ρ = execOp ρ o := by
  refine Oper.semAt_eq _ _ _ fun c hc => ?_
  unfold execOp at hr
  rw [hc] at hr
  simp only [Sem.run_bind] at hr
  cases hq : (resolve ρ c o.type).run P w with
  | ok d w1 =>
    rw [hq] at hr
    simp only [Result.andThen_ok, Sem.run_pure, Result.ok.injEq] at hr
    exact hx _ hr.1.symm
  | halt y w1 =>
    rw [hq] at hr
    simp [Result.andThen] at hr
/-- What an operation's soundness says. -/
def OpOk (P : Program) (o : Oper) (a : Act) (K : KW) (H : Hp) (v : PV) (H' : Hp) : Prop :=
  ∀ (ro : Option Nat) (Kc : Act → World → Prop) (Q : Exit → Act → World → Prop), (∀ K' rv, Ext K H K' H' → HRel K' H' → Rep K' v rv → Kc (a.put o.dst rv) K'.w) → o.wpIn (fc ro) 0 P a K.w Kc Q

theorem OpOk.of_run {P : Program} {o : Oper} {a : Act} {K K' : KW} {H H' : Hp} {v : PV} {rv : Value} (hr : (execOp a.eval o).run P K.w = .ok (.value rv) K'.w)
    (he : Ext K H K' H') (hh : HRel K' H') (hv : Rep K' v rv) : OpOk P o a K H v H' := by
  intro ro Kc Q h
  refine ⟨fun _ _ => trivial, ?_⟩
  rw [semAt_ok hr (by intro d q; cases q), hr]
  exact h K' rv he hh hv
theorem OpOk.of_skip {P : Program} {o : Oper} {a : Act} {K K' : KW} {H H' : Hp} (hr : (execOp a.eval o).run P K.w = .ok .skip K'.w)
    (he : Ext K H K' H') (hh : HRel K' H') : OpOk P o a K H .undef H' := by
  intro ro Kc Q h
  refine ⟨fun _ _ => trivial, ?_⟩
  rw [semAt_ok hr (by intro d q; cases q), hr]
  exact h K' _ he hh trivial
theorem OpOk.of_same {P : Program} {o : Oper} {a : Act} {K : KW} {H : Hp} {v : PV} {rv : Value} (hr : (execOp a.eval o).run P K.w = .ok (.value rv) K.w)
    (hh : HRel K H) (hv : Rep K v rv) : OpOk P o a K H v H := OpOk.of_run hr (Ext.refl _ _) hh hv

/-! ### A new block that will never be written -/
def KW.withZ (K : KW) (o : Obj) : KW := ⟨K.w.alloc o, fun g => K.Z g ∨ g = K.w.heap.size, K.Y, K.μ⟩
theorem KW.withZ_le (K : KW) (H : Hp) (hH : HRel K H) (o : Obj) : K.Le (K.withZ o) :=
  ⟨rfl, rfl, rfl, by simp [KW.withZ], fun g hg => heap_alloc_old _ _ _ (hH.lt g hg), fun g hg => .inl hg, fun g hg => hg, fun _ _ _ h => h, MapsKeep.of_same fun g _ _ hg => heap_alloc_old _ _ _ (Array.getElem?_eq_some_iff.1 hg).1⟩
theorem HRel.withZ {K : KW} {H : Hp} (hH : HRel K H) (o : Obj) : HRel (K.withZ o) H ∧ Ext K H (K.withZ o) H := by
  have hle := KW.withZ_le K H hH o
  refine ⟨⟨?_, hH.inj, hH.fresh, ?_⟩, hle, fun g hg _ => heap_alloc_old _ _ _ hg, fun g hg => .inl hg, fun g hg => hg.imp id (fun q => Nat.le_of_eq q.symm), fun g hg => hg⟩
  · intro b B hb
    rcases hH.blk b B hb with h | ⟨m, g, es, cl, hx, hp, hg0, hm, hh, hz, hy, hmp⟩ | ⟨g, cur, hp, hm, hh, hz, hy, hl, hr, h1⟩
    · exact .inl h
    · have hg : g < K.w.heap.size := (Array.getElem?_eq_some_iff.1 hh).1
      refine .inr (.inl ⟨m, g, es, cl, hx, hp, hg0, hm, (heap_alloc_old _ _ _ hg).trans hh, ?_, hy, hmp.mono hle⟩)
      rintro (q | q)
      · exact hz q
      · omega
    · have hg : g < K.w.heap.size := (Array.getElem?_eq_some_iff.1 hh).1
      refine .inr (.inr ⟨g, cur, hp, hm, (heap_alloc_old _ _ _ hg).trans hh, ?_, hy, hl, hr.mono hle, h1⟩)
      rintro (q | q)
      · exact hz q
      · omega
  · intro g hg
    simp only [KW.withZ, World.size_alloc]
    rcases hg with (q | q) | q
    · have := hH.lt g (.inl q); omega
    · omega
    · have := hH.lt g (.inr q); omega
theorem KW.withZ_at (K : KW) (cs : Array Value) (e : TypeId) (i : Nat) : (K.withZ (.cells cs e)).w.cell? ⟨K.w.heap.size, i, none⟩ = cs[i]? := by
  simp [KW.withZ]

/-- Cells that stand for values, as a row of a new block. -/
theorem RepRow.new {K' : KW} {g : Nat} {xs : List PV} {cs : Array Value} (hc : ∀ i, K'.w.cell? ⟨g, i, none⟩ = cs[i]?) (hr : RepL K' xs cs.toList) (h1 : xs.all PV.one = true) : RepRow K' xs g 0 := by
  refine RepRow.of fun i x hx => ?_
  obtain ⟨v, hv, hrx⟩ := hr.get i x hx
  have hx1 : x.one = true := (List.all_eq_true.1 h1) x (List.mem_of_getElem? hx)
  exact ⟨v, by rw [Nat.zero_add, hc]; simpa using hv, hrx.one hx1, hx1, hrx⟩

/-! ### A new block that may be written -/
def muSet (μ : Nat → Nat → Option (Nat × Nat)) (b gen : Nat) (p : Nat × Nat) : Nat → Nat → Option (Nat × Nat) := fun b' gen' => if b' = b ∧ gen' = gen then some p else μ b' gen'
theorem muSet_same (μ : Nat → Nat → Option (Nat × Nat)) (b gen : Nat) (p : Nat × Nat) : muSet μ b gen p b gen = some p := by simp [muSet]
theorem muSet_other (μ : Nat → Nat → Option (Nat × Nat)) (b gen b' gen' : Nat) (p : Nat × Nat) (h : ¬ (b' = b ∧ gen' = gen)) : muSet μ b gen p b' gen' = μ b' gen' := by simp [muSet, h]

def KW.withM (K : KW) (H : Hp) (cs : Array Value) (e : TypeId) : KW := ⟨K.w.alloc (.cells cs e), K.Z, K.Y, muSet K.μ H.length 0 (K.w.heap.size, cs.size)⟩
theorem KW.withM_le (K : KW) (H : Hp) (hH : HRel K H) (cs : Array Value) (e : TypeId) : K.Le (K.withM H cs e) := by
  refine ⟨rfl, rfl, rfl, by simp [KW.withM], fun g hg => heap_alloc_old _ _ _ (hH.lt g hg), fun g hg => hg, fun g hg => hg, fun b n p hp => ?_, MapsKeep.of_same fun g _ _ hg => heap_alloc_old _ _ _ (Array.getElem?_eq_some_iff.1 hg).1⟩
  have hf : K.μ H.length 0 = none := hH.fresh _ _ (fun B hB => by simp at hB)
  refine (muSet_other _ _ _ _ _ _ ?_).trans hp
  rintro ⟨rfl, rfl⟩
  rw [hf] at hp; cases hp
theorem HRel.withM {K : KW} {H : Hp} (hH : HRel K H) (cs : Array Value) (e : TypeId) (xs : List PV) (hl : xs.length ≤ cs.size) (hx : RepL K xs (cs.toList.take xs.length)) (h1 : xs.all PV.one = true) :
    HRel (K.withM H cs e) (H ++ [⟨e, 0, xs, none⟩]) ∧ Ext K H (K.withM H cs e) (H ++ [⟨e, 0, xs, none⟩]) := by
  have hle := KW.withM_le K H hH cs e
  have hnew : (K.withM H cs e).μ H.length 0 = some (K.w.heap.size, cs.size) := muSet_same _ _ _ _
  have hold : ∀ b B, H[b]? = some B → (K.withM H cs e).μ b B.gen = K.μ b B.gen := fun b B hb => muSet_other _ _ _ _ _ _ (by
    rintro ⟨rfl, _⟩; simp at hb)
  have hget : ∀ b B, (H ++ [(⟨e, 0, xs, none⟩ : Blk)])[b]? = some B → H[b]? = some B ∨ (b = H.length ∧ B = ⟨e, 0, xs, none⟩) := by
    intro b B hb
    rw [List.getElem?_append] at hb
    split at hb
    · exact .inl hb
    · rename_i hlt
      right
      have : b - H.length = 0 := by
        cases hq : b - H.length with
        | zero => rfl
        | succ n => rw [hq] at hb; simp at hb
      rw [this] at hb
      simp at hb
      exact ⟨by omega, hb.symm⟩
  refine ⟨⟨?_, ?_, ?_, ?_⟩, hle, fun g hg _ => heap_alloc_old _ _ _ hg, ?_, fun _ h => .inl h, fun _ h => h⟩
  · intro b B hb
    rcases hget b B hb with hb | ⟨rfl, rfl⟩
    · rw [hold b B hb]
      rcases hH.blk b B hb with h | ⟨m, g, es, cl, hx, hp, hg0, hm, hh, hz, hy, hmp⟩ | ⟨g, cur, hp, hm, hh, hz, hy, hl', hr, h1'⟩
      · exact .inl h
      · exact .inr (.inl ⟨m, g, es, cl, hx, hp, hg0, hm, (heap_alloc_old _ _ _ (Array.getElem?_eq_some_iff.1 hh).1).trans hh, hz, hy, hmp.mono hle⟩)
      · exact .inr (.inr ⟨g, cur, hp, hm, (heap_alloc_old _ _ _ (Array.getElem?_eq_some_iff.1 hh).1).trans hh, hz, hy, hl', hr.mono hle, h1'⟩)
    · refine .inr <| .inr ⟨K.w.heap.size, cs, rfl, hnew, heap_alloc_new _ _, fun q => ?_, fun q => ?_, hl, hx.mono hle, h1⟩
      · have := hH.lt _ (.inl q); omega
      · have := hH.lt _ (.inr q); omega
  · intro b b' B B' g n n' hb hb' hm hm'
    rcases hget b B hb with hb | ⟨rfl, rfl⟩ <;> rcases hget b' B' hb' with hb' | ⟨rfl, rfl⟩
    · rw [hold b B hb] at hm
      rw [hold b' B' hb'] at hm'
      exact hH.inj b b' B B' g n n' hb hb' hm hm'
    · rw [hold b B hb] at hm
      rw [hnew] at hm'
      simp at hm'
      have := hH.live_lt ⟨b, B, n, hb, hm⟩
      omega
    · rw [hold b' B' hb'] at hm'
      rw [hnew] at hm
      simp at hm
      have := hH.live_lt ⟨b', B', n', hb', hm'⟩
      omega
    · rfl
  · intro b gen hg
    refine (muSet_other _ _ _ _ _ _ ?_).trans (hH.fresh b gen (fun B hB => hg B ?_))
    · rintro ⟨rfl, rfl⟩
      have := hg ⟨e, 0, xs, none⟩ (by simp)
      simp at this
    · rw [List.getElem?_append_left (List.getElem?_eq_some_iff.1 hB).1]; exact hB
  · intro g hg
    have := hH.lt g hg
    simp only [KW.withM, World.size_alloc]
    omega
  · rintro g ⟨b, B, n, hb, hm⟩
    rcases hget b B hb with hb | ⟨rfl, rfl⟩
    · rw [hold b B hb] at hm
      exact .inl ⟨b, B, n, hb, hm⟩
    · rw [hnew] at hm
      simp at hm
      exact .inr (by omega)

/-- A block of the small heap that stands for no real block yet (a nil slice that is going to grow). -/
theorem HRel.withX {K : KW} {H : Hp} (hH : HRel K H) (e : TypeId) (xs : List PV) (hxs : xs = [] ∨ xs = [.undef]) : HRel K (H ++ [⟨e, 0, xs, none⟩]) ∧ Ext K H K (H ++ [⟨e, 0, xs, none⟩]) := by
  have hnew : K.μ H.length 0 = none := hH.fresh _ _ (fun B hB => by simp at hB)
  have hget : ∀ b B, (H ++ [(⟨e, 0, xs, none⟩ : Blk)])[b]? = some B → H[b]? = some B ∨ (b = H.length ∧ B = ⟨e, 0, xs, none⟩) := by
    intro b B hb
    rw [List.getElem?_append] at hb
    split at hb
    · exact .inl hb
    · rename_i hlt
      right
      have : b - H.length = 0 := by
        cases hq : b - H.length with
        | zero => rfl
        | succ n => rw [hq] at hb; simp at hb
      rw [this] at hb
      simp at hb
      exact ⟨by omega, hb.symm⟩
  refine ⟨⟨?_, ?_, ?_, hH.lt⟩, KW.Le.refl K, fun _ _ _ => rfl, ?_, fun _ h => .inl h, fun _ h => h⟩
  · intro b B hb
    rcases hget b B hb with hb | ⟨rfl, rfl⟩
    · exact hH.blk b B hb
    · exact .inl ⟨hxs, rfl, hnew⟩
  · intro b b' B B' g n n' hb hb' hm hm'
    rcases hget b B hb with hb | ⟨rfl, rfl⟩ <;> rcases hget b' B' hb' with hb' | ⟨rfl, rfl⟩
    · exact hH.inj b b' B B' g n n' hb hb' hm hm'
    · rw [hnew] at hm'; cases hm'
    · rw [hnew] at hm; cases hm
    · rfl
  · intro b gen hg
    refine hH.fresh b gen (fun B hB => hg B ?_)
    rw [List.getElem?_append_left (List.getElem?_eq_some_iff.1 hB).1]; exact hB
  · rintro g ⟨b, B, n, hb, hm⟩
    rcases hget b B hb with hb | ⟨rfl, rfl⟩
    · exact .inl ⟨b, B, n, hb, hm⟩
    · rw [hnew] at hm; cases hm
theorem HRel.withN {K : KW} {H : Hp} (hH : HRel K H) (e : TypeId) : HRel K (H ++ [⟨e, 0, [], none⟩]) ∧ Ext K H K (H ++ [⟨e, 0, [], none⟩]) := hH.withX e [] (.inl rfl)

/-! ### Another content for a block, in its place -/
theorem MapsKeep.grown {w w' : World} {row : Option Nat} (hg : w.grownBy w' row) (hr : ∀ (g : Nat) (es : Array MapEntry) (c : Nat), row = some g → w.heap[g]? ≠ some (Obj.map es c)) : MapsKeep w w' :=
  MapsKeep.of_same fun g es c h => hg.block g (Array.getElem?_eq_some_iff.1 h).1 (fun e => hr g es c e.symm h)
/-- The real block of a block of cells is no map. -/
theorem HRel.noMap {K : KW} {H : Hp} (hH : HRel K H) {b : Nat} {B : Blk} (hb : H[b]? = some B) (hp : B.mp = none) {g n : Nat} (hm : K.μ b B.gen = some (g, n)) (es : Array MapEntry) (c : Nat) : K.w.heap[g]? ≠ some (Obj.map es c) := by
  intro hq
  rcases hH.blk b B hb with ⟨_, _, hn⟩ | ⟨m, g', es', cl, _, hm', _⟩ | ⟨g', cur, _, hm', hh, _⟩
  · rw [hm] at hn; cases hn
  · rw [hp] at hm'; cases hm'
  · rw [hm] at hm'
    obtain ⟨rfl, _⟩ : g = g' ∧ n = cur.size := by simpa using hm'
    rw [hh] at hq; cases hq
/-- The world has another content in the one real block of block b; all else is as it was. -/
theorem HRel.put {K : KW} {H : Hp} (hH : HRel K H) {w' : World} {g : Nat} (hg : K.w.grownBy w' (some g)) (hs : w'.heap.size = K.w.heap.size) {b : Nat} {B : Blk} (hb : H[b]? = some B) (hp : B.mp = none) {n : Nat} (hm : K.μ b B.gen = some (g, n))
    {cur' : Array Value} (hcur : w'.heap[g]? = some (.cells cur' B.e (0, 0))) (hn : cur'.size = n) (xs : List PV)
    (hl : xs.length ≤ n) (hx : RepL ⟨w', K.Z, K.Y, K.μ⟩ xs (cur'.toList.take xs.length)) (h1 : xs.all PV.one = true) :
    HRel ⟨w', K.Z, K.Y, K.μ⟩ (H.set b ⟨B.e, B.gen, xs, none⟩) ∧ Ext K H ⟨w', K.Z, K.Y, K.μ⟩ (H.set b ⟨B.e, B.gen, xs, none⟩) := by
  have hlive : Live K H g := ⟨b, B, n, hb, hm⟩
  have hlt := hH.live_lt hlive
  have hle : K.Le ⟨w', K.Z, K.Y, K.μ⟩ := ⟨hg.os, hg.tape, hg.output, hg.size, fun k hk => hg.block k (hH.lt k hk) (by
    intro e
    obtain rfl : k = g := by simpa using e
    exact hH.notLive hk hlive), fun _ h => h, fun _ h => h, fun _ _ _ h => h, MapsKeep.grown hg (by
    intro k es c e
    obtain rfl : g = k := by simpa using e
    exact hH.noMap hb hp hm es c)⟩
  have hblt : b < H.length := (List.getElem?_eq_some_iff.1 hb).1
  have hget : ∀ (b' : Nat) (B' : Blk), (H.set b ⟨B.e, B.gen, xs, none⟩)[b']? = some B' → (b' ≠ b ∧ H[b']? = some B') ∨ (b' = b ∧ B' = ⟨B.e, B.gen, xs, none⟩) := by
    intro b' B' hb'
    rw [List.getElem?_set] at hb'
    split at hb'
    · rename_i e
      subst e
      simp [hblt] at hb'
      exact .inr ⟨rfl, hb'.symm⟩
    · rename_i e
      exact .inl ⟨fun q => e q.symm, hb'⟩
  have hgen : ∀ (b' : Nat) (B' : Blk), (H.set b ⟨B.e, B.gen, xs, none⟩)[b']? = some B' → ∃ B'' : Blk, H[b']? = some B'' ∧ B''.gen = B'.gen := by
    intro b' B' hb'
    rcases hget b' B' hb' with ⟨_, h⟩ | ⟨rfl, rfl⟩
    · exact ⟨B', h, rfl⟩
    · exact ⟨B, hb, rfl⟩
  refine ⟨⟨?_, ?_, ?_, ?_⟩, hle, fun k hk hl' => hg.block k hk (by
    intro e
    obtain rfl : k = g := by simpa using e
    exact hl' hlive), ?_, fun _ h => .inl h, fun _ h => h⟩
  · intro b' B' hb'
    rcases hget b' B' hb' with ⟨hne, hb'⟩ | ⟨rfl, rfl⟩
    · rcases hH.blk b' B' hb' with h | ⟨m, g', es, cl, hx', hp', hg0, hm', hh, hz, hy, hmp⟩ | ⟨g', cur, hp', hm', hh, hz, hy, hl', hr, h1'⟩
      · exact .inl h
      · refine .inr <| .inl ⟨m, g', es, cl, hx', hp', hg0, hm', (hg.block g' (Array.getElem?_eq_some_iff.1 hh).1 ?_).trans hh, hz, hy, hmp.mono hle⟩
        intro e
        obtain rfl : g' = g := by simpa using e
        exact hne (hH.inj b' b B' B g' _ _ hb' hb hm' hm)
      · refine .inr <| .inr ⟨g', cur, hp', hm', (hg.block g' (Array.getElem?_eq_some_iff.1 hh).1 ?_).trans hh, hz, hy, hl', hr.mono hle, h1'⟩
        intro e
        obtain rfl : g' = g := by simpa using e
        exact hne (hH.inj b' b B' B g' _ _ hb' hb hm' hm)
    · refine .inr <| .inr ⟨g, cur', rfl, by rw [hn]; exact hm, hcur, fun q => hH.notLive (.inl q) hlive, fun q => hH.notLive (.inr q) hlive, by rw [hn]; exact hl, hx, h1⟩
  · intro b1 b2 B1 B2 g' n1 n2 h1' h2' m1 m2
    obtain ⟨C1, hC1, e1⟩ := hgen b1 B1 h1'
    obtain ⟨C2, hC2, e2⟩ := hgen b2 B2 h2'
    exact hH.inj b1 b2 C1 C2 g' n1 n2 hC1 hC2 (by rw [e1]; exact m1) (by rw [e2]; exact m2)
  · intro b' gen hgn
    refine hH.fresh b' gen (fun B' hB' => ?_)
    by_cases e : b' = b
    · subst e
      rw [hb] at hB'
      obtain rfl : B = B' := by simpa using hB'
      exact hgn ⟨B.e, B.gen, xs, none⟩ (by simp [hblt])
    · exact hgn B' (by rw [List.getElem?_set_ne (fun q => e q.symm)]; exact hB')
  · intro k hk
    rw [show (⟨w', K.Z, K.Y, K.μ⟩ : KW).w.heap.size = K.w.heap.size from hs]
    exact hH.lt k hk
  · rintro k ⟨b', B', n', hb', hm'⟩
    obtain ⟨C, hC, e⟩ := hgen b' B' hb'
    exact .inl ⟨b', C, n', hC, by rw [e]; exact hm'⟩

/-- A block that has grown: in its place, or in a new one. -/
theorem HRel.grow {K : KW} {H : Hp} (hH : HRel K H) {w' : World} {b : Nat} {B : Blk} (hb : H[b]? = some B) (hp : B.mp = none)
    (hg : K.w.grownBy w' ((K.μ b B.gen).map (·.1))) {g' : Nat} (hg' : (∃ n, K.μ b B.gen = some (g', n)) ∨ K.w.heap.size ≤ g')
    {cur' : Array Value} {e : TypeId} (hcur : w'.heap[g']? = some (.cells cur' e (0, 0))) (xs : List PV) (he : e = B.e)
    (hl : xs.length ≤ cur'.size) (hx : RepL ⟨w', K.Z, K.Y, muSet K.μ b (B.gen + 1) (g', cur'.size)⟩ xs (cur'.toList.take xs.length)) (h1 : xs.all PV.one = true) :
    HRel ⟨w', K.Z, K.Y, muSet K.μ b (B.gen + 1) (g', cur'.size)⟩ (H.set b ⟨B.e, B.gen + 1, xs, none⟩) ∧
    Ext K H ⟨w', K.Z, K.Y, muSet K.μ b (B.gen + 1) (g', cur'.size)⟩ (H.set b ⟨B.e, B.gen + 1, xs, none⟩) := by
  subst he
  have hfr : K.μ b (B.gen + 1) = none := hH.fresh b _ (fun B' hB' => by
    rw [hb] at hB'
    obtain rfl : B = B' := by simpa using hB'
    omega)
  have hmu : ∀ b' n p, K.μ b' n = some p → muSet K.μ b (B.gen + 1) (g', cur'.size) b' n = some p := fun b' n p hp => (muSet_other _ _ _ _ _ _ (by
    rintro ⟨rfl, rfl⟩
    rw [hfr] at hp; cases hp)).trans hp
  have hold : ∀ k, Live K H k → ((K.μ b B.gen).map (·.1) = some k → ∃ n, K.μ b B.gen = some (k, n)) := by
    intro k _ hk
    cases hq : K.μ b B.gen with
    | none => rw [hq] at hk; cases hk
    | some p =>
      rw [hq] at hk
      simp at hk
      exact ⟨p.2, by rw [← hk]⟩
  have hrow : ∀ k, ((K.μ b B.gen).map (·.1) = some k) → Live K H k := by
    intro k hk
    cases hq : K.μ b B.gen with
    | none => rw [hq] at hk; cases hk
    | some p =>
      rw [hq] at hk
      simp at hk
      exact ⟨b, B, p.2, hb, by rw [hq, ← hk]⟩
  have hle : K.Le ⟨w', K.Z, K.Y, muSet K.μ b (B.gen + 1) (g', cur'.size)⟩ := ⟨hg.os, hg.tape, hg.output, hg.size, fun k hk => hg.block k (hH.lt k hk) (by
    intro e
    exact hH.notLive hk (hrow k e.symm)), fun _ h => h, fun _ h => h, hmu, MapsKeep.grown hg (by
    intro k es c e
    cases hq : K.μ b B.gen with
    | none => rw [hq] at e; cases e
    | some q =>
      rw [hq] at e
      simp at e
      exact hH.noMap hb hp (n := q.2) (by rw [hq, ← e]) es c)⟩
  have hblt : b < H.length := (List.getElem?_eq_some_iff.1 hb).1
  have hget : ∀ (b' : Nat) (B' : Blk), (H.set b ⟨B.e, B.gen + 1, xs, none⟩)[b']? = some B' → (b' ≠ b ∧ H[b']? = some B') ∨ (b' = b ∧ B' = ⟨B.e, B.gen + 1, xs, none⟩) := by
    intro b' B' hb'
    rw [List.getElem?_set] at hb'
    split at hb'
    · rename_i e
      subst e
      simp [hblt] at hb'
      exact .inr ⟨rfl, hb'.symm⟩
    · rename_i e
      exact .inl ⟨fun q => e q.symm, hb'⟩
  have hnz : ¬ K.Z g' ∧ ¬ K.Y g' := by
    rcases hg' with ⟨n, hn⟩ | hg'
    · have hlv : Live K H g' := ⟨b, B, n, hb, hn⟩
      exact ⟨fun q => hH.notLive (.inl q) hlv, fun q => hH.notLive (.inr q) hlv⟩
    · exact ⟨fun q => by have := hH.lt _ (.inl q); omega, fun q => by have := hH.lt _ (.inr q); omega⟩
  have hother : ∀ b' B' n, b' ≠ b → H[b']? = some B' → K.μ b' B'.gen ≠ some (g', n) := by
    intro b' B' n hne hb' hm
    rcases hg' with ⟨n', hn⟩ | hg'
    · exact hne (hH.inj b' b B' B g' _ _ hb' hb hm hn)
    · have := hH.live_lt ⟨b', B', n, hb', hm⟩
      omega
  refine ⟨⟨?_, ?_, ?_, ?_⟩, hle, fun k hk hl' => hg.block k hk (fun e => hl' (hrow k e.symm)), ?_, fun _ h => .inl h, fun _ h => h⟩
  · intro b' B' hb'
    rcases hget b' B' hb' with ⟨hne, hb'⟩ | ⟨rfl, rfl⟩
    · have hm0 : muSet K.μ b (B.gen + 1) (g', cur'.size) b' B'.gen = K.μ b' B'.gen := muSet_other _ _ _ _ _ _ (fun q => hne q.1)
      rcases hH.blk b' B' hb' with h | ⟨m, g1, es, cl, hx', hp', hg0, hm', hh, hz, hy, hmp⟩ | ⟨g1, cur, hp', hm', hh, hz, hy, hl', hr, h1'⟩
      · exact .inl ⟨h.1, h.2.1, hm0.trans h.2.2⟩
      · refine .inr <| .inl ⟨m, g1, es, cl, hx', hp', hg0, hm0.trans hm', (hg.block g1 (Array.getElem?_eq_some_iff.1 hh).1 ?_).trans hh, hz, hy, hmp.mono hle⟩
        intro e
        obtain ⟨n, hn⟩ := hold g1 ⟨b', B', _, hb', hm'⟩ e.symm
        exact hne (hH.inj b' b B' B g1 _ _ hb' hb hm' hn)
      · refine .inr <| .inr ⟨g1, cur, hp', hm0.trans hm', (hg.block g1 (Array.getElem?_eq_some_iff.1 hh).1 ?_).trans hh, hz, hy, hl', hr.mono hle, h1'⟩
        intro e
        obtain ⟨n, hn⟩ := hold g1 ⟨b', B', _, hb', hm'⟩ e.symm
        exact hne (hH.inj b' b B' B g1 _ _ hb' hb hm' hn)
    · exact .inr <| .inr ⟨g', cur', rfl, muSet_same _ _ _ _, hcur, hnz.1, hnz.2, hl, hx, h1⟩
  · intro b1 b2 B1 B2 g1 n1 n2 h1' h2' m1 m2
    rcases hget b1 B1 h1' with ⟨hne1, hb1⟩ | ⟨rfl, rfl⟩ <;> rcases hget b2 B2 h2' with ⟨hne2, hb2⟩ | ⟨rfl, rfl⟩
    · have m1' : K.μ b1 B1.gen = some (g1, n1) := (muSet_other K.μ b (B.gen + 1) _ _ (g', cur'.size) (fun q => hne1 q.1)).symm.trans m1
      have m2' : K.μ b2 B2.gen = some (g1, n2) := (muSet_other K.μ b (B.gen + 1) _ _ (g', cur'.size) (fun q => hne2 q.1)).symm.trans m2
      exact hH.inj b1 b2 B1 B2 g1 n1 n2 hb1 hb2 m1' m2'
    · have m1' : K.μ b1 B1.gen = some (g1, n1) := (muSet_other K.μ _ (B.gen + 1) _ _ (g', cur'.size) (fun q => hne1 q.1)).symm.trans m1
      have m2' := (muSet_same K.μ b2 (B.gen + 1) (g', cur'.size)).symm.trans m2
      simp at m2'
      rw [← m2'.1] at m1'
      exact absurd m1' (hother b1 B1 n1 hne1 hb1)
    · have m2' : K.μ b2 B2.gen = some (g1, n2) := (muSet_other K.μ _ (B.gen + 1) _ _ (g', cur'.size) (fun q => hne2 q.1)).symm.trans m2
      have m1' := (muSet_same K.μ b1 (B.gen + 1) (g', cur'.size)).symm.trans m1
      simp at m1'
      rw [← m1'.1] at m2'
      exact absurd m2' (hother b2 B2 n2 hne2 hb2)
    · rfl
  · intro b' gen hgn
    by_cases e : b' = b
    · subst e
      have h2 := hgn ⟨B.e, B.gen + 1, xs, none⟩ (by simp [hblt])
      simp at h2
      refine (muSet_other _ _ _ _ _ _ (fun q => by omega)).trans (hH.fresh b' gen (fun B' hB' => ?_))
      rw [hb] at hB'
      obtain rfl : B = B' := by simpa using hB'
      omega
    · exact (muSet_other _ _ _ _ _ _ (fun q => e q.1)).trans (hH.fresh b' gen (fun B' hB' => hgn B' (by rw [List.getElem?_set_ne (fun q => e q.symm)]; exact hB')))
  · intro k hk
    exact Nat.lt_of_lt_of_le (hH.lt k hk) hg.size
  · rintro k ⟨b', B', n', hb', hm'⟩
    rcases hget b' B' hb' with ⟨hne, hb'⟩ | ⟨rfl, rfl⟩
    · exact .inl ⟨b', B', n', hb', (muSet_other K.μ b (B.gen + 1) _ _ (g', cur'.size) (fun q => hne q.1)).symm.trans hm'⟩
    · have m1' := (muSet_same K.μ b' (B.gen + 1) (g', cur'.size)).symm.trans hm'
      simp at m1'
      rcases hg' with ⟨n, hn⟩ | hg'
      · exact .inl ⟨b', B, n, hb, by rw [← m1'.1]; exact hn⟩
      · exact .inr (by omega)
end Go.Proofs.Ytmbknidfkddpfaa.PM
