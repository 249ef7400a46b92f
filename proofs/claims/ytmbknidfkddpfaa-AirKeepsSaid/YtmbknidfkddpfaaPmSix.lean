/- The pure machine, part 6: append, equality of structs, freezing. -/
import Derived.Test.YtmbknidfkddpfaaPmFive
set_option linter.unusedVariables false
set_option linter.unusedSimpArgs false
namespace Go.Proofs.Ytmbknidfkddpfaa.PM

/-- The cells of a slice that is a source. -/
def srcOf (x : PV) (sz : Nat) (H : Hp) : Option (List PV) :=
  match x with
  | .list _ s xs => if s = sz then some xs else none
  | .msl _ b gen off len s => if s = sz then (if len = 0 then some [] else match H[b]? with
      | some B => if B.gen = gen ∧ off + len * sz ≤ B.xs.length then some ((B.xs.drop off).take (len * sz)) else none
      | none => none) else none
  | _ => none

section
variable {P : Program} {o : Oper} {a : Act} {K : KW} {H : Hp}

theorem srcOf_spec {x : PV} {v : Value} {sz : Nat} {ys : List PV} (hH : HRel K H) (hx : Rep K x v) (he : srcOf x sz H = some ys) :
    ∃ ao m c news, v = .slice ao m c ∧ m ≤ c ∧ RepL K ys news ∧ ys.length = m * sz ∧ (∀ u ∈ news, u.oneCell' = true) ∧ ys.all PV.one = true ∧ (ys = [] ∨ ∃ ad, ao = some ad ∧ ∀ j u, news[j]? = some u → K.w.cell? (ad.add j) = some u) := by
  have ofRow : ∀ {xs : List PV} {g oo : Nat}, RepRow K xs g oo → ∃ news, RepL K xs news ∧ (∀ u ∈ news, u.oneCell' = true) ∧ xs.all PV.one = true ∧ ∀ j u, news[j]? = some u → K.w.cell? ((⟨g, oo, none⟩ : Addr).add j) = some u := by
    intro xs g oo hrow
    obtain ⟨l, hl, h1, hc⟩ := hrow.vals
    refine ⟨l, hl, h1, ?_, fun j u hj => by rw [add_plain]; exact hc j u hj⟩
    rw [List.all_eq_true]
    intro y hy
    obtain ⟨i, hi, rfl⟩ := List.getElem_of_mem hy
    obtain ⟨_, _, _, h2, _⟩ := hrow.get i _ (List.getElem?_eq_getElem hi)
    exact h2
  cases x <;> simp only [srcOf, reduceCtorEq] at he
  case list nl s xs =>
    split at he
    case isFalse => cases he
    rename_i hs
    subst hs
    simp only [Option.some.injEq] at he
    subst he
    obtain ⟨hp, hcl, aa, n, c, hv, hl, hn, hr⟩ := hx
    have hnc : n ≤ c := by cases nl <;> simp only [nlOk] at hn <;> omega
    rcases hr with rfl | ⟨g, oo, rfl, hs, hrow⟩
    · exact ⟨aa, n, c, [], hv, hnc, rfl, hl, by simp, by simp, .inl rfl⟩
    · obtain ⟨news, h1, h2, h3, h4⟩ := ofRow hrow
      exact ⟨_, n, c, news, hv, hnc, h1, hl, h2, h3, .inr ⟨_, rfl, h4⟩⟩
  case msl ap b gen off len s =>
    split at he
    case isFalse => cases he
    rename_i hs
    subst hs
    obtain ⟨hp, hx⟩ := hx
    split at he
    · rename_i h0
      subst h0
      simp only [Option.some.injEq] at he
      subst he
      rcases hx with ⟨_, ⟨_, hv⟩ | ⟨_, aa, c, hv⟩⟩ | ⟨g, n, c, _, hv, _⟩
      · exact ⟨_, 0, _, [], hv, Nat.le_refl _, rfl, by simp, by simp, by simp, .inl rfl⟩
      · exact ⟨_, 0, _, [], hv, Nat.zero_le _, rfl, by simp, by simp, by simp, .inl rfl⟩
      · exact ⟨_, 0, _, [], hv, Nat.zero_le _, rfl, by simp, by simp, by simp, .inl rfl⟩
    · rename_i h0
      split at he
      case h_2 => cases he
      rename_i B hB
      split at he
      case isFalse => cases he
      rename_i hc
      obtain ⟨rfl, hle⟩ := hc
      simp only [Option.some.injEq] at he
      subst he
      rcases hx with ⟨q, _⟩ | ⟨g, n, c, hm, hv, hlc, _⟩
      · exact absurd q h0
      · have hrow := ((hH.row hB hm).drop off).take (len * s)
        rw [Nat.zero_add] at hrow
        obtain ⟨news, h1, h2, h3, h4⟩ := ofRow hrow
        refine ⟨_, len, c, news, hv, hlc, h1, ?_, h2, h3, .inr ⟨_, rfl, h4⟩⟩
        rw [List.length_take, List.length_drop]
        omega

/-- append of nothing. -/
theorem run_append_empty {t ty e : TypeId} {i : TypeInfo} (ht : P.underlying t = some (.slice e)) (hi : P.info? e = some i) (ao bo : Option Addr) (n c d : Nat) (hnc : n ≤ c) (w : World) :
    (Builtin.append_ #[t, t] ty #[.slice ao n c, .slice bo 0 d]).run P w = .ok (.slice ao n c) w := by
  cases ao <;> cases bo <;> simp [Builtin.append_, run_underlying ht, sizeOf, typeInfo, hi, Builtin.lenOf, Builtin.firstCells, loadCells, loadCellsFrom, hnc, storeCells]

def evApp (e : TypeId) (sz bytes : Nat) (s x : PV) (H : Hp) : Option (PV × Hp) :=
  (srcOf x sz H).bind fun ys => if ys = [] then (match s with | .list .. | .msl .. => some (s, H) | _ => none) else
    match s with
    | .list nl s' xs => if s' = sz ∧ (nl = .nil ∨ nl = .ex) ∧ (xs.length + ys.length) / sz * bytes ≤ 140737488355328 then
        some (.msl true H.length 1 0 ((xs.length + ys.length) / sz) sz, H ++ [⟨e, 1, xs ++ ys, none⟩]) else none
    | .msl true b gen 0 len s' => if s' = sz ∧ (len + ys.length / sz) * bytes ≤ 140737488355328 then
        (match H[b]? with
        | some B => if B.gen = gen ∧ B.e = e ∧ B.mp = none ∧ len * sz ≤ B.xs.length then some (.msl true b (gen + 1) 0 (len + ys.length / sz) sz, H.set b ⟨e, gen + 1, B.xs.take (len * sz) ++ ys, none⟩) else none
        | none => none) else none
    | _ => none

theorem grownBy_row {w w' : World} {row : Option Nat} (h : w.grownBy w' none) : w.grownBy w' row := ⟨h.os, h.tape, h.output, h.size, fun k hk _ => h.block k hk (by simp)⟩

theorem ownsRow_of_pos {w : World} {base : Nat} {e : TypeId} {size n : Nat} {v : Value} {xs : List Value} (h : w.ownsRow base e size v n xs) (hn : 0 < n) :
    ∃ g cap cur, v = .slice (some ⟨g, 0, none⟩) n cap ∧ base ≤ g ∧ w.heap[g]? = some (.cells cur e (0, 0)) ∧ n ≤ cap ∧ cap ≤ maxLen ∧ cur.size = cap * size ∧ cur.toList.take (n * size) = xs := by
  rcases h.2 with ⟨_, h0⟩ | h
  · omega
  · exact h

theorem ok_app {t e : TypeId} {S X : Operand} {s x r : PV} {i : TypeInfo} {zv : Value} {H' : Hp} (ho : o.op = .call { callee := .builtin .append, args := #[S, X], argTypes := #[t, t] }) (ht : P.underlying t = some (.slice e)) (hi : P.info? e = some i) (hz : i.zero = some zv)
    (hzs : zv.cells.size = i.size) (hsz : 0 < i.size) (hby : 0 < i.bytes) (hH : HRel K H) (hs : Rep K s (a.eval S)) (hx : Rep K x (a.eval X)) (he : evApp e i.size i.bytes s x H = some (r, H')) : OpOk P o a K H r H' := by
  unfold evApp at he
  rw [Option.bind_eq_some_iff] at he
  obtain ⟨ys, hys, he⟩ := he
  obtain ⟨ao, m, c, news, hv, hmc, hr, hl, h1, hone, hrow⟩ := srcOf_spec hH hx hys
  have hrunE : ∀ {v' : Value} {w' : World}, (Builtin.append_ #[t, t] o.type #[a.eval S, a.eval X]).run P K.w = .ok v' w' → (execOp a.eval o).run P K.w = .ok (.value v') w' := by
    intro v' w' h
    simp [execOp, ho, resolve, invoke, builtin, h]
  split at he
  · rename_i h0
    subst h0
    have hm0 : m = 0 := by
      rcases Nat.eq_zero_or_pos m with h | h
      · exact h
      · have := Nat.mul_pos h hsz
        simp only [List.length_nil] at hl
        omega
    subst hm0
    have hS : ∃ so n d, a.eval S = .slice so n d ∧ n ≤ d ∧ r = s ∧ H' = H := by
      split at he
      · simp only [Option.some.injEq, Prod.mk.injEq] at he
        rename_i nl _ _
        obtain ⟨_, _, aa, n, d, hv', _, hn, _⟩ := hs
        exact ⟨aa, n, d, hv', by cases nl <;> simp only [nlOk] at hn <;> omega, he.1.symm, he.2.symm⟩
      · simp only [Option.some.injEq, Prod.mk.injEq] at he
        rcases hs with ⟨_, ⟨rfl, ⟨_, hv'⟩ | ⟨_, aa, d, hv'⟩⟩ | ⟨g, n, d, _, hv', hd, _⟩⟩
        · exact ⟨_, _, _, hv', Nat.le_refl _, he.1.symm, he.2.symm⟩
        · exact ⟨_, _, _, hv', Nat.zero_le _, he.1.symm, he.2.symm⟩
        · exact ⟨_, _, _, hv', hd, he.1.symm, he.2.symm⟩
      · cases he
    obtain ⟨so, n, d, hS, hnd, rfl, rfl⟩ := hS
    have hrun := run_append_empty (ty := o.type) ht hi so ao n d c hnd K.w
    rw [← hS, ← hv] at hrun
    exact OpOk.of_same (hrunE hrun) hH hs
  · rename_i h0
    obtain ⟨ad, rfl, hcell⟩ := hrow.resolve_left h0
    have hm : 0 < m := by
      rcases Nat.eq_zero_or_pos m with e0 | e0
      · rw [e0] at hl; simp at hl; exact absurd hl h0
      · exact e0
    have hnl : news.length = m * i.size := by rw [← hr.length]; exact hl
    have hdivm : ys.length / i.size = m := by rw [hl]; exact Nat.mul_div_cancel _ hsz
    have small : ∀ n : Nat, (n + m) * i.bytes ≤ 140737488355328 → n + m ≤ maxLen := by
      intro n hb
      have : n + m ≤ (n + m) * i.bytes := Nat.le_mul_of_pos_right _ hby
      simp only [maxLen]
      omega
    -- a new block of the small heap for what has grown
    have new : ∀ {n : Nat} {olds : List Value} {xs : List PV} {v' : Value} {w' : World}, (Builtin.append_ #[t, t] o.type #[a.eval S, a.eval X]).run P K.w = .ok v' w' → w'.ownsRow K.w.heap.size e i.size v' (n + m) (olds ++ news) → K.w.grownBy w' none →
        RepL K xs olds → xs.length = n * i.size → xs.all PV.one = true → OpOk P o a K H (.msl true H.length 1 0 (n + m) i.size) (H ++ [⟨e, 1, xs ++ ys, none⟩]) := by
      intro n olds xs v' w' hrun hown hg hxs hxl hx1
      obtain ⟨g, cap, cur, rfl, hb, hh, hnc, hcm, hcs, htk⟩ := ownsRow_of_pos hown (by omega)
      obtain ⟨hHn, hEn⟩ := hH.withN e
      have hlen : (xs ++ ys).length = (n + m) * i.size := by rw [List.length_append, hxl, hl, Nat.add_mul]
      have hget : (H ++ [(⟨e, 0, [], none⟩ : Blk)])[H.length]? = some ⟨e, 0, [], none⟩ := by simp
      have hmu0 : K.μ H.length 0 = none := hH.fresh _ _ (fun B hB => by simp at hB)
      have hle : K.Le ⟨w', K.Z, K.Y, muSet K.μ H.length 1 (g, cur.size)⟩ := ⟨hg.os, hg.tape, hg.output, hg.size, fun k hk => hg.block k (hH.lt k hk) (by simp), fun _ h => h, fun _ h => h, fun b' n' p hp => (muSet_other _ _ _ _ _ _ (by
        rintro ⟨rfl, rfl⟩
        rw [hH.fresh _ _ (fun B hB => by simp at hB)] at hp
        cases hp)).trans hp, MapsKeep.grown hg (fun _ _ _ e => by cases e)⟩
      obtain ⟨hH', hE⟩ := hHn.grow (w' := w') (b := H.length) (B := ⟨e, 0, [], none⟩) hget rfl (grownBy_row hg) (g' := g) (.inr hb) hh (xs ++ ys) rfl (by rw [hlen, hcs]; exact Nat.mul_le_mul_right _ hnc)
        (by rw [hlen, htk]; exact (hxs.append hr).mono hle) (by rw [List.all_append, hx1, hone]; rfl)
      have hset : (H ++ [(⟨e, 0, [], none⟩ : Blk)]).set H.length ⟨e, 1, xs ++ ys, none⟩ = H ++ [⟨e, 1, xs ++ ys, none⟩] := by
        rw [List.set_append]; simp
      simp only [Nat.zero_add] at hH' hE
      rw [hset] at hH' hE
      refine OpOk.of_run (K' := ⟨w', K.Z, K.Y, muSet K.μ H.length 1 (g, cur.size)⟩) (hrunE hrun) (hEn.trans hE) hH' ⟨hsz, .inr ⟨g, _, cap, muSet_same _ _ _ _, rfl, hnc, fun _ => ⟨by rw [Nat.zero_add]; exact hcs, hcm⟩⟩⟩
    split at he
    · rename_i nl s' xs
      split at he
      case isFalse => cases he
      rename_i hc
      obtain ⟨rfl, hnl', hb⟩ := hc
      simp only [Option.some.injEq, Prod.mk.injEq] at he
      obtain ⟨rfl, rfl⟩ := he
      obtain ⟨_, hcl, aa, n, d, hS, hxl, hn, hrw⟩ := hs
      have hdiv : (xs.length + ys.length) / i.size = n + m := by rw [hxl, hl, ← Nat.add_mul]; exact Nat.mul_div_cancel _ hsz
      rw [hdiv] at hb ⊢
      have hnd : n = d := by
        rcases hnl' with rfl | rfl <;> simp only [nlOk] at hn <;> omega
      subst hnd
      cases aa with
      | none =>
        have hx0 : xs = [] := by
          rcases hrw with h | ⟨g, oo, h, _⟩
          · exact h
          · cases h
        subst hx0
        have hn0 : n = 0 := by
          rcases Nat.eq_zero_or_pos n with h | h
          · exact h
          · have := Nat.mul_pos h hsz
            simp only [List.length_nil] at hxl
            omega
        subst hn0
        obtain ⟨v', w', hrun, hown, hg, _⟩ := run_append_own_at (P := P) K.w K.w.heap.size t o.type e i zv i.size i.bytes ht hi hz rfl rfl hzs hsz (.slice none 0 0) 0 [] (World.ownsRow_nil _ _ _ _) ad m c news hnl hcell h1 (small 0 hb) hb (Nat.le_refl _)
        rw [← hv, ← hS] at hrun
        exact new hrun hown (grownBy_row hg) RepL.nil (by simp) (by simp)
      | some b =>
        have holds : ∃ olds, RepL K xs olds ∧ (∀ j u, olds[j]? = some u → K.w.cell? (b.add j) = some u) ∧ xs.all PV.one = true := by
          rcases hrw with rfl | ⟨g, oo, hb', hs, hrow⟩
          · exact ⟨[], rfl, by simp, by simp⟩
          · simp only [Option.some.injEq] at hb'
            subst hb'
            obtain ⟨l, hl', _, hc'⟩ := hrow.vals
            refine ⟨l, hl', fun j u hj => by rw [add_plain]; exact hc' j u hj, ?_⟩
            rw [List.all_eq_true]
            intro y hy
            obtain ⟨i, hi, rfl⟩ := List.getElem_of_mem hy
            obtain ⟨_, _, _, h2, _⟩ := hrow.get i _ (List.getElem?_eq_getElem hi)
            exact h2
        obtain ⟨olds, ho1, ho2, ho3⟩ := holds
        obtain ⟨v', w', hrun, hown, hg⟩ := run_append_arg_grows (P := P) K.w t o.type e i zv i.size i.bytes ht hi hz rfl rfl hzs hsz b n n olds (by rw [← ho1.length]; exact hxl) ho2 ad m c news hnl hcell (by omega) (small n hb) hb
        rw [← hv, ← hS] at hrun
        exact new hrun hown hg ho1 hxl ho3
    · rename_i b gen len s'
      split at he
      case isFalse => cases he
      rename_i hc
      obtain ⟨rfl, hb⟩ := hc
      rw [hdivm] at hb he
      split at he
      case h_2 => cases he
      rename_i B hB
      split at he
      case isFalse => cases he
      rename_i hc
      obtain ⟨rfl, rfl, hpm, hle⟩ := hc
      simp only [Option.some.injEq, Prod.mk.injEq] at he
      obtain ⟨rfl, rfl⟩ := he
      have hlen : (B.xs.take (len * i.size) ++ ys).length = (len + m) * i.size := by
        rw [List.length_append, List.length_take, Nat.min_eq_left hle, hl, Nat.add_mul]
      obtain ⟨_, hs⟩ := hs
      -- the value that grows, as a row of the call's own
      have hown : ∃ olds, K.w.ownsRow 0 B.e i.size (a.eval S) len olds ∧ RepL K (B.xs.take (len * i.size)) olds ∧ (B.xs.take (len * i.size)).all PV.one = true ∧ ((K.μ b B.gen).map (·.1) = (a.eval S).ownBlock ∨ (a.eval S).ownBlock = none) := by
        rcases hs with ⟨rfl, ⟨_, hS⟩ | ⟨h, _⟩⟩ | ⟨g, n, d, hm', hS, hld, hap⟩
        · refine ⟨[], ?_, by simpa using RepL.nil, by simp, .inr (by rw [hS]; rfl)⟩
          rw [hS]
          exact World.ownsRow_nil _ _ _ _
        · exact absurd rfl h
        · obtain ⟨hcap, hcm⟩ := hap rfl
          rw [Nat.zero_add] at hcap
          rcases hH.blk b B hB with ⟨_, _, hno⟩ | ⟨_, _, _, _, _, hp', _⟩ | ⟨g', cur, _, hm2, hh, _, _, hlc, hrc, h1c⟩
          · rw [hm'] at hno; cases hno
          · rw [hpm] at hp'; cases hp'
          · rw [hm'] at hm2
            obtain ⟨rfl, rfl⟩ : g = g' ∧ n = cur.size := by simpa using hm2
            have hlc2 : len * i.size ≤ cur.size := Nat.le_trans hle hlc
            refine ⟨cur.toList.take (len * i.size), ⟨?_, ?_⟩, ?_, ?_, .inl ?_⟩
            · rw [List.length_take, Array.length_toList]; exact Nat.min_eq_left hlc2
            · exact .inr ⟨g, d, cur, hS, Nat.zero_le _, hh, hld, hcm, hcap, rfl⟩
            · have := hrc.take (len * i.size)
              rwa [List.take_take, Nat.min_eq_left hle] at this
            · rw [List.all_eq_true] at h1c ⊢
              intro y hy
              exact h1c y (List.mem_of_mem_take hy)
            · rw [hm', hS]; rfl
      obtain ⟨olds, hown, hro, hon, hbl⟩ := hown
      obtain ⟨v', w', hrun, hown', hg, _, hat⟩ := run_append_own_at (P := P) K.w 0 t o.type B.e i zv i.size i.bytes ht hi hz rfl rfl hzs hsz (a.eval S) len olds hown ad m c news hnl hcell h1 (small len hb) hb (Nat.zero_le _)
      rw [← hv] at hrun
      obtain ⟨g, cap, cur, rfl, _, hh, hnc, hcm, hcs, htk⟩ := ownsRow_of_pos hown' (by omega)
      have hg2 : K.w.grownBy w' ((K.μ b B.gen).map (·.1)) := by
        rcases hbl with h | h
        · rw [h]; exact hg
        · rw [h] at hg; exact grownBy_row hg
      have hgl : (∃ n, K.μ b B.gen = some (g, n)) ∨ K.w.heap.size ≤ g := by
        rcases hat with h | h
        · rcases hbl with h2 | h2
          · left
            rw [← h2] at h
            simp only [Value.ownBlock] at h
            cases hq : K.μ b B.gen with
            | none => rw [hq] at h; cases h
            | some p =>
              rw [hq] at h
              simp at h
              exact ⟨p.2, by rw [h]⟩
          · rw [h2] at h; simp [Value.ownBlock] at h
        · right
          simp [Value.ownBlock] at h
          omega
      have hle' : K.Le ⟨w', K.Z, K.Y, muSet K.μ b (B.gen + 1) (g, cur.size)⟩ := by
        refine ⟨hg.os, hg.tape, hg.output, hg.size, fun k hk => hg2.block k (hH.lt k hk) ?_, fun _ h => h, fun _ h => h, fun b' n' p hp => (muSet_other _ _ _ _ _ _ ?_).trans hp, MapsKeep.grown hg2 ?_⟩
        · intro e
          cases hq : K.μ b B.gen with
          | none => rw [hq] at e; cases e
          | some p =>
            rw [hq] at e
            simp at e
            exact hH.notLive hk ⟨b, B, p.2, hB, by rw [hq, e]⟩
        · rintro ⟨rfl, rfl⟩
          rw [hH.fresh b' (B.gen + 1) (fun B' hB' => by
            rw [hB] at hB'
            obtain rfl : B = B' := by simpa using hB'
            omega)] at hp
          cases hp
        · intro k es c e
          cases hq : K.μ b B.gen with
          | none => rw [hq] at e; cases e
          | some p =>
            rw [hq] at e
            simp at e
            exact hH.noMap hB hpm (n := p.2) (by rw [hq, ← e]) es c
      obtain ⟨hH', hE⟩ := hH.grow (w' := w') hB hpm hg2 hgl hh (B.xs.take (len * i.size) ++ ys) rfl (by rw [hlen, hcs]; exact Nat.mul_le_mul_right _ hnc)
        (by rw [hlen, htk]; exact (hro.append hr).mono hle') (by rw [List.all_append, hon, hone]; rfl)
      exact OpOk.of_run (K' := ⟨w', K.Z, K.Y, muSet K.μ b (B.gen + 1) (g, cur.size)⟩) (hrunE hrun) hE hH' ⟨hsz, .inr ⟨g, _, cap, muSet_same _ _ _ _, rfl, hnc, fun _ => ⟨by rw [Nat.zero_add]; exact hcs, hcm⟩⟩⟩
    · cases he

/-! ### Equality of structs whose cells are numbers and Bools -/
def eqCells : List Bool → List PV → List PV → Option Bool
  | [], [], [] => some true
  | true :: ks, .int k a :: xs, .int k' b :: ys => if k = k' then (eqCells ks xs ys).map fun r => (a == b) && r else none
  | false :: ks, .bool a :: xs, .bool b :: ys => (eqCells ks xs ys).map fun r => (a == b) && r
  | _, _, _ => none
def evEqs (neg : Bool) (ks : List Bool) (x y : PV) : Option PV := match x, y with | .agg xs, .agg ys => (eqCells ks xs ys).map fun b => .bool (if neg then !b else b) | _, _ => none

/-- The fields lie one behind the other, a cell each, numbers (true) and Bools. -/
def flatFields (P : Program) : List Bool → List Field → Nat → Bool
  | [], [], _ => true
  | k :: ks, f :: fs, j => f.name != "_" && f.offset == j && hasT P f.type && !isAggT P f.type && (match P.underlying f.type with | some (.int _) => k | some .bool => !k | _ => false) && flatFields P ks fs (j + 1)
  | _, _, _ => false

theorem run_eqCells (d : Nat) : ∀ (ks : List Bool) (fs : List Field) (j : Nat) (xs ys : List PV) (X Y : Array Value) (r : Bool), flatFields P ks fs j = true → RepL K xs (X.toList.drop j) → RepL K ys (Y.toList.drop j) → eqCells ks xs ys = some r →
    (Op.eqFields (d + 1) X Y fs).run P K.w = .ok r K.w
  | [], [], j, xs, ys, X, Y, r, _, hx, hy, he => by
    cases xs <;> cases ys <;> simp only [eqCells, reduceCtorEq, Option.some.injEq] at he
    subst he
    simp [Op.eqFields]
  | [], f :: fs, j, xs, ys, X, Y, r, hf, hx, hy, he => by simp [flatFields] at hf
  | k :: ks, [], j, xs, ys, X, Y, r, hf, hx, hy, he => by simp [flatFields] at hf
  | k :: ks, f :: fs, j, xs, ys, X, Y, r, hf, hx, hy, he => by
    simp only [flatFields, Bool.and_eq_true, bne_iff_ne, ne_eq, beq_iff_eq, Bool.not_eq_true'] at hf
    obtain ⟨⟨⟨⟨⟨hname, hoff⟩, hT⟩, hA⟩, hu⟩, hrest⟩ := hf
    cases xs with
    | nil => cases k <;> simp [eqCells] at he
    | cons x xs =>
      cases ys with
      | nil => cases k <;> cases x <;> simp [eqCells] at he
      | cons y ys =>
        obtain ⟨u, us, eX, hxu, hxs⟩ := hx
        obtain ⟨v, vs, eY, hyv, hys⟩ := hy
        have gX : X[j]? = some u := by
          have := congrArg (·[0]?) eX
          simpa using this
        have gY : Y[j]? = some v := by
          have := congrArg (·[0]?) eY
          simpa using this
        have dX : X.toList.drop (j + 1) = us := by
          have := congrArg (List.drop 1) eX
          simpa [Nat.add_comm] using this
        have dY : Y.toList.drop (j + 1) = vs := by
          have := congrArg (List.drop 1) eY
          simpa [Nat.add_comm] using this
        have hpX : (part f.type X f.offset).run P K.w = .ok u K.w := by
          simp [part, run_isAgg hT, hA, hoff, gX]
        have hpY : (part f.type Y f.offset).run P K.w = .ok v K.w := by
          simp [part, run_isAgg hT, hA, hoff, gY]
        have ih : ∀ r', eqCells ks xs ys = some r' → (Op.eqFields (d + 1) X Y fs).run P K.w = .ok r' K.w := fun r' hr' =>
          run_eqCells d ks fs (j + 1) xs ys X Y r' hrest (by rw [dX]; exact hxs) (by rw [dY]; exact hys) hr'
        have fin : ∀ (b r' : Bool), (Op.equalIn (d + 1) f.type u v).run P K.w = .ok b K.w → eqCells ks xs ys = some r' → (b && r') = r → (Op.eqFields (d + 1) X Y (f :: fs)).run P K.w = .ok r K.w := by
          intro b r' hb hr' hr
          subst hr
          simp only [Op.eqFields, Sem.run_ite, Sem.run_bind]
          rw [if_pos hname]
          simp only [Sem.run_bind, hpX, Result.andThen_ok, hpY, hb]
          cases b
          · simp
          · simpa using ih r' hr'
        cases k <;> cases x <;> cases y <;> simp only [eqCells, reduceCtorEq] at he
        · rename_i p q
          rw [Option.map_eq_some_iff] at he
          obtain ⟨r', hr', hr⟩ := he
          have hu' : u = .bool p := hxu
          have hv' : v = .bool q := hyv
          subst hu'; subst hv'
          split at hu
          · cases hu
          · rename_i hk
            exact fin (p == q) r' (run_equalIn_bool' K.w d f.type p q hk) hr' hr
          · cases hu
        · rename_i k p k' q
          split at he
          case isFalse => cases he
          rename_i hkk
          subst hkk
          rw [Option.map_eq_some_iff] at he
          obtain ⟨r', hr', hr⟩ := he
          have hu' : u = .int k p := hxu
          have hv' : v = .int k q := hyv
          subst hu'; subst hv'
          split at hu
          · rename_i kk hk
            exact fin (p == q) r' (run_equalIn_int K.w d f.type k kk p q hk) hr' hr
          · cases hu
          · cases hu

/-- Fields as before, or structs of such. -/
def flatFields2 (P : Program) : List Bool → List Field → Nat → Bool
  | [], [], _ => true
  | _ :: _, [], _ => false
  | ks, f :: fs, j => f.name != "_" && f.offset == j && hasT P f.type &&
    (match P.underlying f.type with
      | some (.struct gs) => !P.stoodInHeld f.type && decide (0 < gs.size) && decide (gs.size ≤ ks.length) && P.cellsOf f.type == gs.size && flatFields P (ks.take gs.size) gs.toList 0 && flatFields2 P (ks.drop gs.size) fs (j + gs.size)
      | _ => flatFields P (ks.take 1) [f] j && flatFields2 P (ks.drop 1) fs (j + 1))
theorem eqCells_len : ∀ {ks : List Bool} {xs ys : List PV} {r : Bool}, eqCells ks xs ys = some r → xs.length = ks.length ∧ ys.length = ks.length
  | [], xs, ys, r, h => by cases xs <;> cases ys <;> simp [eqCells] at h ⊢
  | k :: ks, xs, ys, r, h => by
    cases xs with
    | nil => cases k <;> simp [eqCells] at h
    | cons x xs =>
      cases ys with
      | nil => cases k <;> cases x <;> simp [eqCells] at h
      | cons y ys =>
        cases k <;> cases x <;> cases y <;> simp only [eqCells, reduceCtorEq] at h
        · rw [Option.map_eq_some_iff] at h
          obtain ⟨r', h, _⟩ := h
          have := eqCells_len h
          simp; omega
        · split at h
          case isFalse => cases h
          rw [Option.map_eq_some_iff] at h
          obtain ⟨r', h, _⟩ := h
          have := eqCells_len h
          simp; omega
theorem eqCells_split : ∀ {n : Nat} {ks : List Bool} {xs ys : List PV} {r : Bool}, n ≤ ks.length → eqCells ks xs ys = some r → ∃ b1 b2, eqCells (ks.take n) (xs.take n) (ys.take n) = some b1 ∧ eqCells (ks.drop n) (xs.drop n) (ys.drop n) = some b2 ∧ r = (b1 && b2)
  | 0, ks, xs, ys, r, _, h => ⟨true, r, by simp [eqCells], by simpa using h, by simp⟩
  | n + 1, [], xs, ys, r, hn, h => by simp at hn
  | n + 1, k :: ks, xs, ys, r, hn, h => by
    cases xs with
    | nil => cases k <;> simp [eqCells] at h
    | cons x xs =>
      cases ys with
      | nil => cases k <;> cases x <;> simp [eqCells] at h
      | cons y ys =>
        simp only [List.take_succ_cons, List.drop_succ_cons]
        cases k <;> cases x <;> cases y <;> simp only [eqCells, reduceCtorEq] at h ⊢
        · rw [Option.map_eq_some_iff] at h
          obtain ⟨r', h, rfl⟩ := h
          obtain ⟨b1, b2, h1, h2, rfl⟩ := eqCells_split (n := n) (by simpa using hn) h
          exact ⟨_, b2, by rw [h1]; rfl, h2, by rw [Bool.and_assoc]⟩
        · split at h
          case isFalse => cases h
          rename_i hk
          rw [Option.map_eq_some_iff] at h
          obtain ⟨r', h, rfl⟩ := h
          obtain ⟨b1, b2, h1, h2, rfl⟩ := eqCells_split (n := n) (by simpa using hn) h
          exact ⟨_, b2, by rw [if_pos hk, h1]; rfl, h2, by rw [Bool.and_assoc]⟩
theorem run_eqCells2 (d : Nat) : ∀ (fs : List Field) (ks : List Bool) (j : Nat) (xs ys : List PV) (X Y : Array Value) (r : Bool), flatFields2 P ks fs j = true → RepL K xs X.toList → RepL K ys Y.toList → eqCells ks (xs.drop j) (ys.drop j) = some r →
    (Op.eqFields (d + 2) X Y fs).run P K.w = .ok r K.w
  | [], [], j, xs, ys, X, Y, r, _, hx, hy, he => by
    have := eqCells_len he
    cases h1 : xs.drop j <;> cases h2 : ys.drop j <;> rw [h1, h2] at he <;> simp only [eqCells, reduceCtorEq, Option.some.injEq] at he
    subst he
    simp [Op.eqFields]
  | [], _ :: _, j, xs, ys, X, Y, r, hf, hx, hy, he => by simp [flatFields2] at hf
  | f :: fs, ks, j, xs, ys, X, Y, r, hf, hx, hy, he => by
    unfold flatFields2 at hf
    simp only [Bool.and_eq_true, bne_iff_ne, ne_eq, beq_iff_eq] at hf
    obtain ⟨⟨⟨hname, hoff⟩, hT⟩, hf⟩ := hf
    have hlen := eqCells_len he
    rw [List.length_drop, List.length_drop] at hlen
    split at hf
    · rename_i gs hgs
      simp only [Bool.and_eq_true, decide_eq_true_eq, beq_iff_eq, Bool.not_eq_true'] at hf
      obtain ⟨⟨⟨⟨⟨hst, h0⟩, hn⟩, hc⟩, hfl⟩, hrest⟩ := hf
      have hA : isAggT P f.type = true := by unfold isAggT; rw [hgs]
      obtain ⟨b1, b2, e1, e2, rfl⟩ := eqCells_split hn he
      have hfo : P.fieldsOf f.type = gs := by simp [Program.fieldsOf, hgs]
      have cut : ∀ zs : List PV, j + gs.size ≤ zs.length → cutV (some gs.size) zs j = some (.agg ((zs.drop j).take gs.size)) := fun zs h => by
        unfold cutV; simp only; rw [if_pos h]
      obtain ⟨u, hpX, hu⟩ := run_part hT hx (n := some gs.size) (by rw [hA, if_pos rfl, hc]) (cut xs (by omega))
      obtain ⟨v, hpY, hv⟩ := run_part hT hy (n := some gs.size) (by rw [hA, if_pos rfl, hc]) (cut ys (by omega))
      obtain ⟨X', rfl, hX'⟩ := hu
      obtain ⟨Y', rfl, hY'⟩ := hv
      have h1 := run_eqCells (P := P) (K := K) d (ks.take gs.size) gs.toList 0 _ _ X' Y' b1 hfl (by simpa using hX') (by simpa using hY') e1
      have h2 : (Op.equalIn (d + 2) f.type (.agg X') (.agg Y')).run P K.w = .ok b1 K.w := by
        refine (run_equalIn_struct K.w (d + 1) f.type X' Y' (by rw [hfo]; exact hgs) hst).trans ?_
        rw [hfo]; exact h1
      have ih := run_eqCells2 d fs (ks.drop gs.size) (j + gs.size) xs ys X Y b2 hrest hx hy (by simpa [List.drop_drop] using e2)
      simp only [Op.eqFields, Sem.run_ite, Sem.run_bind]
      rw [if_pos hname]
      rw [hoff]
      simp only [Sem.run_bind, hpX, Result.andThen_ok, hpY, h2]
      cases b1
      · simp
      · simpa using ih
    · rw [Bool.and_eq_true] at hf
      obtain ⟨hfl, hrest⟩ := hf
      cases ks with
      | nil => simp [flatFields] at hfl
      | cons k ks =>
        obtain ⟨b1, b2, e1, e2, rfl⟩ := eqCells_split (n := 1) (by simp) he
        have hfl' := hfl
        simp only [List.take_succ_cons, List.take_zero, flatFields, Bool.and_eq_true, bne_iff_ne, ne_eq, beq_iff_eq, Bool.not_eq_true', Bool.and_true] at hfl
        obtain ⟨⟨⟨⟨_, _⟩, _⟩, hA⟩, hu⟩ := hfl
        have cut : ∀ zs : List PV, j + 1 ≤ zs.length → ∃ z, cutV none zs j = some z ∧ (zs.drop j).take 1 = [z] := fun zs h => by
          refine ⟨zs[j], ?_, ?_⟩
          · unfold cutV; simp only; exact List.getElem?_eq_getElem (by omega)
          · rw [List.drop_eq_getElem_cons (by omega)]; rfl
        have hl1 : ks.length + 1 = (k :: ks).length := rfl
        obtain ⟨x, cx, tx⟩ := cut xs (by simp at hlen; omega)
        obtain ⟨y, cy, ty⟩ := cut ys (by simp at hlen; omega)
        obtain ⟨u, hpX, hu'⟩ := run_part hT hx (n := none) (by rw [hA]; rfl) cx
        obtain ⟨v, hpY, hv'⟩ := run_part hT hy (n := none) (by rw [hA]; rfl) cy
        rw [tx, ty] at e1
        have ih := run_eqCells2 d fs ks (j + 1) xs ys X Y b2 hrest hx hy (by simpa [List.drop_drop] using e2)
        have h2 : (Op.equalIn (d + 2) f.type u v).run P K.w = .ok b1 K.w := by
          simp only [List.take_succ_cons, List.take_zero] at e1
          cases k <;> cases x <;> cases y <;> simp only [eqCells, reduceCtorEq] at e1
          · rename_i p q
            simp at e1
            have hu2 : u = .bool p := hu'
            have hv2 : v = .bool q := hv'
            subst hu2; subst hv2
            split at hu
            · cases hu
            · rename_i hk
              rw [← e1]
              exact run_equalIn_bool' K.w (d + 1) f.type p q hk
            · cases hu
          · rename_i k p k' q
            split at e1
            case isFalse => cases e1
            rename_i hkk
            subst hkk
            simp at e1
            have hu2 : u = .int k p := hu'
            have hv2 : v = .int k q := hv'
            subst hu2; subst hv2
            split at hu
            · rename_i kk hk
              rw [← e1]
              exact run_equalIn_int K.w (d + 1) f.type k kk p q hk
            · cases hu
            · cases hu
        simp only [Op.eqFields, Sem.run_ite, Sem.run_bind]
        rw [if_pos hname]
        rw [hoff]
        simp only [Sem.run_bind, hpX, Result.andThen_ok, hpY, h2]
        cases b1
        · simp
        · simpa using ih

theorem ok_eqs {op : BinOp} {neg : Bool} (hop : op = if neg then .neq else .eql) {t yt : TypeId} {X Y : Operand} {x y r : PV} {ks : List Bool} (ho : o.op = .binOp op t X Y yt) (ht : P.underlying t = some (.struct (P.fieldsOf t))) (hp : P.stoodInHeld t = false) (hm : P.eqGuardType P.depth t = false)
    (hf : flatFields2 P ks (P.fieldsOf t).toList 0 = true) (hH : HRel K H) (hx : Rep K x (a.eval X)) (hy : Rep K y (a.eval Y)) (he : evEqs neg ks x y = some r) : OpOk P o a K H r H := by
  cases x <;> simp only [evEqs, reduceCtorEq] at he
  rename_i xs
  cases y <;> simp only [reduceCtorEq] at he
  rename_i ys
  rw [Option.map_eq_some_iff] at he
  obtain ⟨b, hb, rfl⟩ := he
  obtain ⟨X', hX, hrx⟩ := hx
  obtain ⟨Y', hY, hry⟩ := hy
  have h1 := run_eqCells2 (P := P) (K := K) 9997 (P.fieldsOf t).toList ks 0 xs ys X' Y' b hf hrx hry (by simpa using hb)
  have h2 : (Op.equalIn 10000 t (.agg X') (.agg Y')).run P K.w = .ok b K.w := (run_equalIn_struct K.w 9999 t X' Y' ht hp).trans h1
  have hg := run_eqGuard_agg (P := P) K.w op t X Y X' Y' hm
  refine OpOk.of_same (rv := .bool (if neg then !b else b)) ?_ hH rfl
  cases neg
  · simp at hop; subst hop
    simp only [execOp, ho, hX, hY, Sem.run_bind, hg, Result.andThen_ok, run_eql_struct, h2, Sem.run_pure]
    rfl
  · simp at hop; subst hop
    simp only [execOp, ho, hX, hY, Sem.run_bind, hg, Result.andThen_ok, run_neq_struct, h2, Sem.run_pure]
    rfl
end
mutual
/-- Names no block of the small heap from k on. -/
def PV.noRef (k : Nat) : PV → Bool
  | .msl _ b _ _ _ _ => decide (b < k)
  | .mptr b _ _ => decide (b < k)
  | .clo _ f c => PV.noRefL k f && PV.noRefL k c
  | .iface _ v => v.noRef k
  | .agg xs => PV.noRefL k xs
  | .tup xs => PV.noRefL k xs
  | .mmap b => decide (b < k)
  | .stp b _ => decide (b < k)
  | _ => true
def PV.noRefL (k : Nat) : List PV → Bool
  | [] => true
  | x :: xs => x.noRef k && PV.noRefL k xs
end

mutual
theorem Rep.trim {K : KW} {k : Nat} : ∀ (x : PV) (v : Value), x.noRef k = true → Rep K x v → Rep ⟨K.w, K.Z, K.Y, fun b gen => if b < k then K.μ b gen else none⟩ x v
  | .msl ap b gen off len sz, v, h, hr => by
    obtain ⟨h0, hr⟩ := hr
    refine ⟨h0, hr.imp id ?_⟩
    rintro ⟨g, n, c, hm, hv⟩
    simp only [PV.noRef, decide_eq_true_eq] at h
    exact ⟨g, n, c, by simp only [if_pos h]; exact hm, hv⟩
  | .mptr b gen off, v, h, hr => by
    obtain ⟨g, n, hm, hv⟩ := hr
    simp only [PV.noRef, decide_eq_true_eq] at h
    exact ⟨g, n, by simp only [if_pos h]; exact hm, hv⟩
  | .clo fn f c, v, h, hr => by
    obtain ⟨f', c', rfl, hf, hc⟩ := hr
    simp only [PV.noRef, Bool.and_eq_true] at h
    exact ⟨f', c', rfl, RepL.trim f _ h.1 hf, RepL.trim c _ h.2 hc⟩
  | .iface t x, v, h, hr => by
    obtain ⟨y, rfl, hy⟩ := hr
    exact ⟨y, rfl, Rep.trim x y h hy⟩
  | .agg xs, v, h, hr => by
    obtain ⟨ys, rfl, hy⟩ := hr
    exact ⟨ys, rfl, RepL.trim xs _ h hy⟩
  | .tup xs, v, h, hr => by
    obtain ⟨ys, rfl, hy⟩ := hr
    exact ⟨ys, rfl, RepL.trim xs _ h hy⟩
  | .list nl sz xs, v, h, hr => Rep.move (K := K) (K' := ⟨K.w, K.Z, K.Y, fun b gen => if b < k then K.μ b gen else none⟩) (A := True) (B := False) (fun g hg => ⟨hg, rfl⟩) (fun _ g hg => ⟨.inr hg, rfl⟩) (fun q => q.elim) (fun q => q.elim) _ v (.inr trivial) (.inl (Rep.pure_of _ v hr rfl)) hr
  | .pptr b xs off, v, h, hr => Rep.move (K := K) (K' := ⟨K.w, K.Z, K.Y, fun b gen => if b < k then K.μ b gen else none⟩) (A := True) (B := False) (fun g hg => ⟨hg, rfl⟩) (fun _ g hg => ⟨.inr hg, rfl⟩) (fun q => q.elim) (fun q => q.elim) _ v (.inr trivial) (.inl (Rep.pure_of _ v hr rfl)) hr
  | .fmap b kn ks vs, v, h, hr => Rep.move (K := K) (K' := ⟨K.w, K.Z, K.Y, fun b gen => if b < k then K.μ b gen else none⟩) (A := True) (B := False) (fun g hg => ⟨hg, rfl⟩) (fun _ g hg => ⟨.inr hg, rfl⟩) (fun q => q.elim) (fun q => q.elim) _ v (.inr trivial) (.inl (Rep.pure_of _ v hr rfl)) hr
  | .mmap b, v, h, hr => by
    obtain ⟨g, n, hm, hv⟩ := hr
    simp only [PV.noRef, decide_eq_true_eq] at h
    exact ⟨g, n, by simp only [if_pos h]; exact hm, hv⟩
  | .stp b q, v, h, hr => by
    obtain ⟨g, n, es, clock, e, hm, hv⟩ := hr
    simp only [PV.noRef, decide_eq_true_eq] at h
    exact ⟨g, n, es, clock, e, by simp only [if_pos h]; exact hm, hv⟩
  | .nilmap, _, _, h => h
  | .undef, _, _, _ => trivial
  | .bool _, _, _, h => h
  | .int _ _, _, _, h => h
  | .str _, _, _, h => h
  | .nilptr, _, _, h => h
  | .nilfn, _, _, h => h
  | .nilif, _, _, h => h
theorem RepL.trim {K : KW} {k : Nat} : ∀ (xs : List PV) (l : List Value), PV.noRefL k xs = true → RepL K xs l → RepL ⟨K.w, K.Z, K.Y, fun b gen => if b < k then K.μ b gen else none⟩ xs l
  | [], _, _, h => h
  | x :: xs, l, h, hr => by
    obtain ⟨y, ys, rfl, hx, hxs⟩ := hr
    simp only [PV.noRefL, Bool.and_eq_true] at h
    exact ⟨y, ys, rfl, Rep.trim x y h.1 hx, RepL.trim xs ys h.2 hxs⟩
end

/-- A block names no block of the small heap from k on. -/
def Blk.nr (k : Nat) (B : Blk) : Bool := PV.noRefL k B.xs && (match B.mp with | some m => PV.noRefL k m.vs | none => true)
@[simp] theorem Blk.nr_cells (k e gen : Nat) (xs : List PV) : Blk.nr k ⟨e, gen, xs, none⟩ = PV.noRefL k xs := by simp [Blk.nr]
theorem Blk.nr_xs {k : Nat} {B : Blk} (h : B.nr k = true) : PV.noRefL k B.xs = true := by simp only [Blk.nr, Bool.and_eq_true] at h; exact h.1
theorem Blk.nr_mp {k : Nat} {B : Blk} {m : Mp} (h : B.nr k = true) (hm : B.mp = some m) : PV.noRefL k m.vs = true := by simp only [Blk.nr, Bool.and_eq_true, hm] at h; exact h.2
/-! ### A block that is not written any more -/
theorem publish {K K' : KW} {H : Hp} {B : Blk} {v : Value} {len sz : Nat} {ap : Bool} (hH : HRel K H) (hX : Ext K H K' (H ++ [B])) (hH' : HRel K' (H ++ [B])) (hv : Rep K' (.msl ap H.length B.gen 0 len sz) v) (hlen : 0 < len) (hBp : B.mp = none)
    (hnr : (H.all fun C => C.nr H.length) = true) (hnb : PV.noRefL H.length B.xs = true) (hc : PV.cleanLB B.xs = true) (hxl : B.xs.length = len * sz) :
    ∃ K2, K2.w = K'.w ∧ Ext K H K2 H ∧ HRel K2 H ∧ Rep K2 (.list .any sz B.xs) v := by
  obtain ⟨hsz, hv⟩ := hv
  obtain ⟨g, n, c, hm, hv, hlc, _⟩ : ∃ g n c, K'.μ H.length B.gen = some (g, n) ∧ v = .slice (some ⟨g, 0, none⟩) len c ∧ len ≤ c ∧ True := by
    rcases hv with ⟨h, _⟩ | ⟨g, n, c, h1, h2, h3, h4⟩
    · omega
    · exact ⟨g, n, c, h1, h2, h3, trivial⟩
  have hb0 : (H ++ [B])[H.length]? = some B := by simp
  have hin : ∀ b C, H[b]? = some C → b < H.length ∧ (H ++ [B])[b]? = some C := fun b C h => by
    have := (List.getElem?_eq_some_iff.1 h).1
    exact ⟨this, by rw [List.getElem?_append_left this]; exact h⟩
  rcases hH'.blk _ _ hb0 with ⟨_, _, h⟩ | ⟨_, _, _, _, _, h, _⟩ | ⟨g', cur, _, hm', hh, hz, hy, hl, hr, h1⟩
  · rw [hm] at h; cases h
  · rw [hBp] at h; cases h
  rw [hm] at hm'
  obtain ⟨rfl, rfl⟩ : g = g' ∧ n = cur.size := by simpa using hm'
  have hgold : K.w.heap.size ≤ g := by
    rcases hX.live g ⟨_, _, _, hb0, hm⟩ with ⟨b, C, n', hb, hm2⟩ | h
    · obtain ⟨h1, h2⟩ := hin b C hb
      have := hH'.inj b H.length C B g n' cur.size h2 hb0 (hX.le.mu _ _ _ hm2) hm
      omega
    · exact h
  let K2 : KW := ⟨K'.w, fun x => K'.Z x ∨ x = g, K'.Y, fun b gen => if b < H.length then K'.μ b gen else none⟩
  have up : (⟨K'.w, K'.Z, K'.Y, fun b gen => if b < H.length then K'.μ b gen else none⟩ : KW).Le K2 := ⟨rfl, rfl, rfl, Nat.le_refl _, fun _ _ => rfl, fun _ h => .inl h, fun _ h => h, fun _ _ _ h => h, MapsKeep.refl _⟩
  have hle : K.Le K2 := ⟨hX.le.os, hX.le.tape, hX.le.output, hX.le.size, hX.le.keep, fun x h => .inl (hX.le.z x h), hX.le.y, fun b gen p hp => by
    have hb : b < H.length := by
      apply Classical.byContradiction
      intro hno
      rw [hH.fresh b gen (fun C hC => by rw [List.getElem?_eq_none (by omega)] at hC; cases hC)] at hp
      cases hp
    simp only [K2, if_pos hb]
    exact hX.le.mu b gen p hp, hX.le.maps⟩
  refine ⟨K2, rfl, ⟨hle, hX.frame, ?_, ?_, hX.yb⟩, ⟨?_, ?_, ?_, ?_⟩, ?_⟩
  · rintro x ⟨b, C, n', hb, hm2⟩
    obtain ⟨h1, h2⟩ := hin b C hb
    simp only [K2, if_pos h1] at hm2
    exact hX.live x ⟨b, C, n', h2, hm2⟩
  · rintro x (h | rfl)
    · exact hX.zb x h
    · exact .inr hgold
  · intro b C hb
    obtain ⟨h1', h2⟩ := hin b C hb
    simp only [K2, if_pos h1']
    have hnC := List.all_eq_true.1 hnr C (List.mem_of_getElem? hb)
    rcases hH'.blk b C h2 with h | ⟨m, x, es, cl, hx', hp', hg0, hm2, hh2, hz2, hy2, hk2, hst2, es', hpm2, hks2, hvs2⟩ | ⟨x, cur', hp', hm2, hh2, hz2, hy2, hl2, hr2, h12⟩
    · exact .inl h
    · refine .inr <| .inl ⟨m, x, es, cl, hx', hp', hg0, hm2, hh2, ?_, hy2, hk2, hst2, es', hpm2, hks2, ?_⟩
      · rintro (q | rfl)
        · exact hz2 q
        · have := hH'.inj b H.length C B x 0 cur.size h2 hb0 hm2 hm
          omega
      · exact (RepL.trim _ _ (Blk.nr_mp hnC hp') hvs2).mono up
    · refine .inr <| .inr ⟨x, cur', hp', hm2, hh2, ?_, hy2, hl2, ?_, h12⟩
      · rintro (q | rfl)
        · exact hz2 q
        · have := hH'.inj b H.length C B x cur'.size cur.size h2 hb0 hm2 hm
          omega
      · exact (RepL.trim _ _ (Blk.nr_xs hnC) hr2).mono up
  · intro b b' C C' x n' n'' hb hb' hm2 hm3
    obtain ⟨h1', h2⟩ := hin b C hb
    obtain ⟨h1'', h2'⟩ := hin b' C' hb'
    simp only [K2, if_pos h1'] at hm2
    simp only [K2, if_pos h1''] at hm3
    exact hH'.inj b b' C C' x n' n'' h2 h2' hm2 hm3
  · intro b gen hgn
    simp only [K2]
    by_cases hb : b < H.length
    · rw [if_pos hb]
      exact hH'.fresh b gen fun C hC => hgn C (by rw [List.getElem?_append_left hb] at hC; exact hC)
    · rw [if_neg hb]
  · rintro x ((h | rfl) | h)
    · exact hH'.lt x (.inl h)
    · exact (Array.getElem?_eq_some_iff.1 hh).1
    · exact hH'.lt x (.inr h)
  · have hrb : RepL K2 B.xs (cur.toList.take B.xs.length) := (RepL.trim _ _ hnb hr).mono up
    refine ⟨hsz, ?_, some ⟨g, 0, none⟩, len, c, hv, hxl, hlc, .inr ⟨g, 0, rfl, .inl (.inr rfl), ?_⟩⟩
    · rw [if_neg (by simp)]
      exact RepL.clean_of _ _ hrb hc
    · refine RepRow.of fun i x hx => ?_
      obtain ⟨u, hu, hru⟩ := hrb.get i x hx
      have hx1 : x.one = true := List.all_eq_true.1 h1 x (List.mem_of_getElem? hx)
      have hi := (List.getElem?_eq_some_iff.1 hx).1
      refine ⟨u, ?_, hru.one hx1, hx1, hru⟩
      rw [List.getElem?_take, if_pos hi] at hu
      simp only [World.cell?, K2, hh, Nat.zero_add]
      simpa using hu

/-- Append to nil or to a literal, where nobody writes what comes of it. -/
def evAppp (e : TypeId) (sz bytes : Nat) (s x : PV) (H : Hp) : Option PV :=
  (srcOf x sz H).bind fun ys => if ys = [] then (match s with | .list nl s' xs => some (.list nl s' xs) | _ => none) else
    match s with
    | .list nl s' xs => if (s' = sz ∧ (nl = .nil ∨ nl = .ex) ∧ (xs.length + ys.length) / sz * bytes ≤ 140737488355328) ∧ (H.all fun C => C.nr H.length) = true ∧ PV.noRefL H.length (xs ++ ys) = true ∧ PV.cleanLB (xs ++ ys) = true ∧
        0 < (xs.length + ys.length) / sz ∧ (xs ++ ys).length = (xs.length + ys.length) / sz * sz then some (.list .any sz (xs ++ ys)) else none
    | _ => none
section
variable {P : Program} {o : Oper} {a : Act} {K : KW} {H : Hp}
theorem ok_appp {t e : TypeId} {S X : Operand} {s x r : PV} {i : TypeInfo} {zv : Value} (ho : o.op = .call { callee := .builtin .append, args := #[S, X], argTypes := #[t, t] }) (ht : P.underlying t = some (.slice e)) (hi : P.info? e = some i) (hz : i.zero = some zv)
    (hzs : zv.cells.size = i.size) (hsz : 0 < i.size) (hby : 0 < i.bytes) (hH : HRel K H) (hs : Rep K s (a.eval S)) (hx : Rep K x (a.eval X)) (he : evAppp e i.size i.bytes s x H = some r) : OpOk P o a K H r H := by
  unfold evAppp at he
  rw [Option.bind_eq_some_iff] at he
  obtain ⟨ys, hys, he⟩ := he
  split at he
  · rename_i h0
    split at he
    case h_2 => cases he
    simp only [Option.some.injEq] at he
    subst he
    exact ok_app ho ht hi hz hzs hsz hby hH hs hx (by simp only [evApp, hys, Option.bind_some, if_pos h0])
  · rename_i h0
    split at he
    case h_2 => cases he
    rename_i nl s' xs
    split at he
    case isFalse => cases he
    rename_i hc
    obtain ⟨h1, h2, h3, h4, h5, h6⟩ := hc
    simp only [Option.some.injEq] at he
    subst he
    have hA := ok_app ho ht hi hz hzs hsz hby hH hs hx (r := .msl true H.length 1 0 ((xs.length + ys.length) / i.size) i.size) (H' := H ++ [⟨e, 1, xs ++ ys, none⟩]) (by simp only [evApp, hys, Option.bind_some, if_neg h0, if_pos h1])
    intro ro Kc Q hK
    refine hA ro Kc Q fun K' rv hX hH' hv => ?_
    obtain ⟨K2, hw, hX2, hH2, hv2⟩ := publish (B := ⟨e, 1, xs ++ ys, none⟩) hH hX hH' hv h5 rfl h2 h3 h4 h6
    rw [← hw]
    exact hK K2 rv hX2 hH2 hv2
end

end Go.Proofs.Ytmbknidfkddpfaa.PM
