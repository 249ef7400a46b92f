/- The pure machine, part 26 (behind 12): an append to a slice that does not begin at its block's start: two outcomes. -/
import Derived.Test.YtmbknidfkddpfaaPmTwelve
import Derived.ArgAppend
set_option linter.unusedVariables false
set_option linter.unusedSimpArgs false
namespace Go.Proofs.Ytmbknidfkddpfaa.PM
/-- In its place, and in a new block. -/
def evApp2 (e : TypeId) (sz bytes : Nat) (s x : PV) (H : Hp) : Option ((PV × Hp) × (PV × Hp)) :=
  (srcOf x sz H).bind fun ys => if ys = [] then none else
    match s with
    | .msl true b gen off len s' => if s' = sz ∧ off ≠ 0 ∧ 0 < len ∧ (len + ys.length / sz) * bytes ≤ 140737488355328 then
        (match H[b]? with
        | some B => if B.gen = gen ∧ B.e = e ∧ B.mp = none ∧ off + len * sz ≤ B.xs.length then
            some ((.msl true b (gen + 1) off (len + ys.length / sz) sz, H.set b ⟨e, gen + 1, B.xs.take (off + len * sz) ++ ys, none⟩),
              (.msl true H.length 1 0 (len + ys.length / sz) sz, H ++ [⟨e, 1, (B.xs.drop off).take (len * sz) ++ ys, none⟩])) else none
        | none => none) else none
    | _ => none
section
variable {P : Program} {K : KW} {H : Hp} {o : Oper} {a : Act}
theorem setCells_end : ∀ (xs : List PV) (zs ys : List PV), zs.length = ys.length → setCells (xs ++ zs) xs.length ys = xs ++ ys
  | [], zs, ys, h => by
    induction ys generalizing zs with
    | nil => have : zs = [] := by simpa using h
             subst this; simp [setCells]
    | cons y ys ih =>
      cases zs with
      | nil => simp at h
      | cons z zs =>
        have key : ∀ (a : PV) (o : Nat) (us vs : List PV), setCells (a :: us) (o + 1) vs = a :: setCells us o vs := by
          intro a o us vs
          induction vs generalizing us o with
          | nil => simp [setCells]
          | cons v vs ih => simp only [setCells, List.set_cons_succ, ih]
        simp only [List.nil_append, List.length_nil, setCells, List.set_cons_zero]
        rw [key]
        have := ih zs (by simpa using h)
        simp only [List.nil_append, List.length_nil] at this
        rw [this]
  | x :: xs, zs, ys, h => by
    have key : ∀ (a : PV) (o : Nat) (us vs : List PV), setCells (a :: us) (o + 1) vs = a :: setCells us o vs := by
      intro a o us vs
      induction vs generalizing us o with
      | nil => simp [setCells]
      | cons v vs ih => simp only [setCells, List.set_cons_succ, ih]
    rw [List.cons_append, List.length_cons, key, setCells_end xs zs ys h, List.cons_append]
theorem ok_app2 {t e : TypeId} {S X : Operand} {s x : PV} {A1 A2 : PV × Hp} {i : TypeInfo} {zv : Value} (ho : o.op = .call { callee := .builtin .append, args := #[S, X], argTypes := #[t, t] }) (ht : P.underlying t = some (.slice e)) (hi : P.info? e = some i) (hz : i.zero = some zv)
    (hzs : zv.cells.size = i.size) (hsz : 0 < i.size) (hby : 0 < i.bytes) (hH : HRel K H) (hs : Rep K s (a.eval S)) (hx : Rep K x (a.eval X)) (he : evApp2 e i.size i.bytes s x H = some (A1, A2)) (ro : Option Nat) (Kc : Act → World → Prop) (Q : Exit → Act → World → Prop)
    (h1 : ∀ K' rv, Ext K H K' A1.2 → HRel K' A1.2 → Rep K' A1.1 rv → Kc (a.put o.dst rv) K'.w) (h2 : ∀ K' rv, Ext K H K' A2.2 → HRel K' A2.2 → Rep K' A2.1 rv → Kc (a.put o.dst rv) K'.w) : o.wpIn (fc ro) 0 P a K.w Kc Q := by
  unfold evApp2 at he
  rw [Option.bind_eq_some_iff] at he
  obtain ⟨ys, hys, he⟩ := he
  obtain ⟨ao, m, c, news, hv, hmc, hr, hl, hn1, hone, hrow⟩ := srcOf_spec hH hx hys
  have hrunE : ∀ {v' : Value} {w' : World}, (Builtin.append_ #[t, t] o.type #[a.eval S, a.eval X]).run P K.w = .ok v' w' → (execOp a.eval o).run P K.w = .ok (.value v') w' := by
    intro v' w' h
    simp [execOp, ho, resolve, invoke, builtin, h]
  split at he
  case isTrue => cases he
  rename_i h0
  obtain ⟨ad, rfl, hcell⟩ := hrow.resolve_left h0
  have hm : 0 < m := by
    rcases Nat.eq_zero_or_pos m with e0 | e0
    · rw [e0] at hl; simp at hl; exact absurd hl h0
    · exact e0
  have hnl : news.length = m * i.size := by rw [← hr.length]; exact hl
  have hdivm : ys.length / i.size = m := by rw [hl]; exact Nat.mul_div_cancel _ hsz
  split at he
  case h_2 => cases he
  rename_i b gen off len s'
  rw [hdivm] at he
  split at he
  case isFalse => cases he
  rename_i hc
  obtain ⟨rfl, hoff, hlen0, hb⟩ := hc
  split at he
  case h_2 => cases he
  rename_i B hB
  split at he
  case isFalse => cases he
  rename_i hc
  obtain ⟨rfl, rfl, hpm, hle⟩ := hc
  simp only [Option.some.injEq, Prod.mk.injEq] at he
  obtain ⟨rfl, rfl⟩ := he
  have h63 : len + m ≤ maxLen := by
    have : len + m ≤ (len + m) * i.bytes := Nat.le_mul_of_pos_right _ hby
    simp only [maxLen]
    omega
  obtain ⟨_, hs⟩ := hs
  rcases hs with ⟨hl0, _⟩ | ⟨g, n, d, hmu, hS, hld, hap⟩
  · omega
  obtain ⟨hcap, hdm⟩ := hap rfl
  rcases hH.blk b B hB with ⟨_, _, hno⟩ | ⟨_, _, _, _, _, hp', _⟩ | ⟨g', cur, _, hm2, hh, hzz, hyy, hlc, hrc, h1c⟩
  · rw [hmu] at hno; cases hno
  · rw [hpm] at hp'; cases hp'
  rw [hmu] at hm2
  obtain ⟨rfl, rfl⟩ : g = g' ∧ n = cur.size := by simpa using hm2
  have hlm : len * i.size + m * i.size = (len + m) * i.size := (Nat.add_mul _ _ _).symm
  have htl : (B.xs.take (off + len * i.size)).length = off + len * i.size := by rw [List.length_take, Nat.min_eq_left hle]
  have hdl : ((B.xs.drop off).take (len * i.size)).length = len * i.size := by rw [List.length_take, List.length_drop]; omega
  by_cases hroom : len + m ≤ d
  · have hdd : (len + m) * i.size ≤ d * i.size := Nat.mul_le_mul_right _ hroom
    obtain ⟨cur', hh', hcs', hsz', hg, hrep⟩ := heap_setCells g B.e news (off + len * i.size) K.w cur hh
    have hrun := run_append_room_cells (P := P) K.w t o.type B.e i ht hi g off len d ad m c news hnl hcell hn1 hroom (fun j hj => by
        rw [cell_of_row K.w g _ cur B.e (0, 0) hh]
        simp [Array.getElem?_eq_getElem (show off + len * i.size + j < cur.size by omega)]) (fun j hj => frozen_of_row K.w g _ cur B.e hh)
    rw [← hS, ← hv] at hrun
    have hg2 : K.w.grownBy (K.w.setCells g (off + len * i.size) news) ((K.μ b B.gen).map (·.1)) := by rw [hmu]; exact hg
    have hxs := hrep K (B.xs.take (off + len * i.size) ++ List.replicate ys.length .undef) ys (by
        rw [List.length_append, List.length_replicate, htl]
        refine RepL.of ?_ ?_
        · have hcl : cur.toList.length = cur.size := by simp
          have hcs2 : cur'.size = cur.size := hcs'
          rw [List.length_append, List.length_replicate, htl, List.length_take, hcl]
          rw [Nat.min_eq_left]
          have : off + len * i.size + ys.length ≤ cur.size := by rw [hcap, hl]; omega
          exact this
        · intro j x v hx hv'
          by_cases hj : j < off + len * i.size
          · rw [List.getElem?_append_left (by rw [htl]; exact hj), List.getElem?_take, if_pos hj] at hx
            obtain ⟨u, hu, hru⟩ := hrc.get j x hx
            rw [List.getElem?_take] at hu hv'
            split at hu
            · rw [if_pos (by omega)] at hv'
              rw [hu] at hv'
              rw [← Option.some.inj hv']; exact hru
            · cases hu
          · rw [List.getElem?_append_right (by rw [htl]; omega), List.getElem?_replicate] at hx
            split at hx
            · rw [← Option.some.inj hx]; trivial
            · cases hx) hr (by rw [List.length_append, List.length_replicate, htl]; omega) (by rw [List.length_append, List.length_replicate, htl]; omega)
    have hsc : setCells (B.xs.take (off + len * i.size) ++ List.replicate ys.length .undef) (off + len * i.size) ys = B.xs.take (off + len * i.size) ++ ys := by
      have := setCells_end (B.xs.take (off + len * i.size)) (List.replicate ys.length .undef) ys (by simp)
      rw [htl] at this
      exact this
    rw [hsc, show (B.xs.take (off + len * i.size) ++ List.replicate ys.length PV.undef).length = (B.xs.take (off + len * i.size) ++ ys).length by simp] at hxs
    have hle' : K.Le ⟨K.w.setCells g (off + len * i.size) news, K.Z, K.Y, muSet K.μ b (B.gen + 1) (g, cur'.size)⟩ := ⟨hg.os, hg.tape, hg.output, hg.size, fun k hk => hg.block k (hH.lt k hk) (by
      intro e
      obtain rfl : k = g := by simpa using e
      exact hH.notLive hk ⟨b, B, _, hB, hmu⟩), fun _ h => h, fun _ h => h, fun b' n' p hp => (muSet_other _ _ _ _ _ _ (by
        rintro ⟨rfl, rfl⟩
        rw [hH.fresh b' (B.gen + 1) (fun B' hB' => by rw [hB] at hB'; obtain rfl : B = B' := by simpa using hB'
                                                      omega)] at hp
        cases hp)).trans hp, MapsKeep.grown hg (by
      intro k es c e
      obtain rfl : g = k := by simpa using e
      exact hH.noMap hB hpm hmu es c)⟩
    obtain ⟨hH', hE⟩ := hH.grow (w' := K.w.setCells g (off + len * i.size) news) hB hpm hg2 (.inl ⟨_, hmu⟩) hh' (B.xs.take (off + len * i.size) ++ ys) rfl (by rw [List.length_append, htl]; omega) (hxs.mono hle')
      (by rw [List.all_append, hone, Bool.and_true]; rw [List.all_eq_true] at h1c ⊢; exact fun y hy => h1c y (List.mem_of_mem_take hy))
    have hR := hrunE hrun
    refine ⟨fun _ _ => trivial, ?_⟩
    rw [semAt_ok hR (by intro d q; cases q), hR]
    exact h1 _ _ hE hH' ⟨hsz, .inr ⟨g, _, d, muSet_same _ _ _ _, rfl, hroom, fun _ => ⟨by rw [hcs']; exact hcap, hdm⟩⟩⟩
  · -- a new block
    have hrow2 := ((hH.row hB hmu).drop off).take (len * i.size)
    rw [Nat.zero_add] at hrow2
    obtain ⟨olds, ho1, ho2, ho3⟩ := hrow2.vals
    obtain ⟨v', w', hrun, hown, hg⟩ := run_append_arg_grows (P := P) K.w t o.type B.e i zv i.size i.bytes ht hi hz rfl rfl hzs hsz ⟨g, off, none⟩ len d olds (by rw [← ho1.length]; exact hdl) (fun j u hj => by rw [add_plain]; exact ho3 j u hj) ad m c news hnl hcell (by omega) h63 hb
    rw [← hS, ← hv] at hrun
    obtain ⟨g2, cap, cur2, rfl, hbs, hh2, hnc, hcm, hcs, htk⟩ := ownsRow_of_pos hown (by omega)
    obtain ⟨hHn, hEn⟩ := hH.withN B.e
    have hget : (H ++ [(⟨B.e, 0, [], none⟩ : Blk)])[H.length]? = some ⟨B.e, 0, [], none⟩ := by simp
    have hle' : K.Le ⟨w', K.Z, K.Y, muSet K.μ H.length 1 (g2, cur2.size)⟩ := ⟨hg.os, hg.tape, hg.output, hg.size, fun k hk => hg.block k (hH.lt k hk) (by simp), fun _ h => h, fun _ h => h, fun b' n' p hp => (muSet_other _ _ _ _ _ _ (by
      rintro ⟨rfl, rfl⟩
      rw [hH.fresh _ _ (fun B hB => by simp at hB)] at hp
      cases hp)).trans hp, MapsKeep.grown hg (fun _ _ _ e => by cases e)⟩
    have hlen2 : ((B.xs.drop off).take (len * i.size) ++ ys).length = (len + m) * i.size := by rw [List.length_append, hdl, hl, hlm]
    have hol : olds.length = len * i.size := by rw [← ho1.length]; exact hdl
    obtain ⟨hH', hE⟩ := hHn.grow (w' := w') (b := H.length) (B := ⟨B.e, 0, [], none⟩) hget rfl (grownBy_row hg) (g' := g2) (.inr hbs) hh2 ((B.xs.drop off).take (len * i.size) ++ ys) rfl (by rw [hlen2, hcs]; exact Nat.mul_le_mul_right _ hnc)
      (by rw [hlen2, htk]; exact (ho1.append hr).mono hle') (by
        rw [List.all_append, hone, Bool.and_true]
        rw [List.all_eq_true] at h1c ⊢
        exact fun y hy => h1c y (List.mem_of_mem_drop (List.mem_of_mem_take hy)))
    have hset : (H ++ [(⟨B.e, 0, [], none⟩ : Blk)]).set H.length ⟨B.e, 1, (B.xs.drop off).take (len * i.size) ++ ys, none⟩ = H ++ [⟨B.e, 1, (B.xs.drop off).take (len * i.size) ++ ys, none⟩] := by
      rw [List.set_append]; simp
    simp only [Nat.zero_add] at hH' hE
    rw [hset] at hH' hE
    have hR := hrunE hrun
    refine ⟨fun _ _ => trivial, ?_⟩
    rw [semAt_ok hR (by intro d q; cases q), hR]
    exact h2 _ _ (hEn.trans hE) hH' ⟨hsz, .inr ⟨g2, _, cap, muSet_same _ _ _ _, rfl, hnc, fun _ => ⟨by rw [Nat.zero_add]; exact hcs, hcm⟩⟩⟩
end
end Go.Proofs.Ytmbknidfkddpfaa.PM
