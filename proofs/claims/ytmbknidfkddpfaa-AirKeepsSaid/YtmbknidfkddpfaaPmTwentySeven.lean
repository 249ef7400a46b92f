/- The pure machine, part 27: an evaluator whose ends are lists: each append to a slice that begins inside its block has two. -/
import Derived.Test.YtmbknidfkddpfaaPmTwentySix
import Derived.Test.YtmbknidfkddpfaaPmThirteen
set_option linter.unusedVariables false
set_option linter.unusedSimpArgs false
namespace Go.Proofs.Ytmbknidfkddpfaa.PM
def bindL {α β : Type} (f : α → Option (List β)) : List α → Option (List β)
  | [] => some []
  | x :: xs => (f x).bind fun ys => (bindL f xs).map fun zs => ys ++ zs
theorem bindL_mem {α β : Type} {f : α → Option (List β)} : ∀ {xs : List α} {zs : List β}, bindL f xs = some zs → ∀ x ∈ xs, ∃ ys, f x = some ys ∧ ∀ y ∈ ys, y ∈ zs
  | [], _, _, x, h => by cases h
  | x :: xs, zs, h, y, hy => by
    simp only [bindL, Option.bind_eq_some_iff, Option.map_eq_some_iff] at h
    obtain ⟨ys, h1, zs', h2, rfl⟩ := h
    rcases List.mem_cons.1 hy with rfl | hy
    · exact ⟨ys, h1, fun z hz => List.mem_append_left _ hz⟩
    · obtain ⟨ys', h3, h4⟩ := bindL_mem h2 y hy
      exact ⟨ys', h3, fun z hz => List.mem_append_right _ (h4 z hz)⟩
section
variable (T : Table) (ex : PCode → Env → Hp → Option (PX × Env × Hp))
def nop (env : Env) (H : Hp) (p : POp) : Option (List (PV × Hp)) :=
  match evOp (callP T ex) (callO T ex) fzB T.meth env H p with
  | some q => some [q]
  | none => match p with
    | .app e sz bytes s x => (evApp2 e sz bytes (ev env s) (ev env x) H).map fun q => [q.1, q.2]
    | _ => none
def nseq : List ROp → Env → Hp → Option (List (Env × Hp))
  | [], env, H => some [(env, H)]
  | r :: rs, env, H => (gd env r.guard).bind fun b => if b then (nop T ex env H r.op).bind fun vs => bindL (fun q => nseq rs (put env r.dst q.1) q.2) vs else nseq rs (put env r.dst (.tup [])) H
end
def ROp.isApp (r : ROp) : Bool := match r.op with | .app .. => true | _ => false
def ROp.isEst (r : ROp) : Bool := match r.op with | .est .. => true | _ => false
def nap (rs : List ROp) : Bool := rs.any ROp.isApp && !rs.any ROp.isEst
def unblk (id : Nat) (o : PX × Env × Hp) : PX × Env × Hp := match o.1 with | .exit i => if i = id then (.normal, o.2) else o | _ => o
def nx (T : Table) : Nat → PCode → Env → Hp → Option (List (PX × Env × Hp))
  | 0, _, _, _ => none
  | n + 1, c, env, H => match c with
    | .seq a b => (nx T n a env H).bind fun os => bindL (fun o => match o.1 with | .normal => nx T n b o.2.1 o.2.2 | _ => some [o]) os
    | .cond c a b => (match ev env c with | .bool t => nx T n (if t then a else b) env H | _ => none)
    | .blk id c => (nx T n c env H).map fun os => os.map (unblk id)
    | .loop c => (nx T n c env H).bind fun os => bindL (fun o => match o.1 with | .normal => nx T n (.loop c) o.2.1 o.2.2 | _ => some [o]) os
    | .reg rs [] live => if nap rs then (nseq T (pexec T n) rs env H).map fun qs => qs.map fun q => (.normal, normE live q.1, q.2) else (pexec T n (.reg rs [] live) env H).map fun q => [q]
    | c => (pexec T n c env H).map fun q => [q]
/-- Which codes it runs: regions in their order. -/
def nxOk : PCode → Code → Bool
  | .seq a b, .seq a' b' => nxOk a a' && nxOk b b'
  | .cond _ a b, .cond _ a' b' => nxOk a a' && nxOk b b'
  | .blk _ a, .block _ a' => nxOk a a'
  | .loop a, .loop a' => nxOk a a'
  | .reg rs [] _, .region _ _ d => !(nap rs) || !d
  | _, _ => true
section
variable {P : Program} {T : Table} {ex : PCode → Env → Hp → Option (PX × Env × Hp)}
theorem nseq_ok (hT : TOk P T) (hex : ExOk P ex) {N : Nat} {ops : Array Oper} {Q : Exit → Act → World → Prop} :
    ∀ (os : List Oper) (rs : List ROp) (i : Nat) (K : KW) (H : Hp) (env : Env) (a : Act) (outs : List (Env × Hp)), (∀ j o, os[j]? = some o → ops[i + j]? = some o) → ropsOk P N ops os rs = true → HRel K H → ERel K N env a →
      nseq T ex rs env H = some outs → (∀ o ∈ outs, ∀ K' a', Ext K H K' o.2 → HRel K' o.2 → ERel K' N o.1 a' → a'.defers = a.defers → Q .normal a' K'.w) →
      wpOpsIn (fc none) 0 P ops Q ((List.range os.length).map (i + ·)) a K.w
  | [], rs, i, K, H, env, a, outs, hops, hok, hH, hE, he, hQ => by
    cases rs with
    | cons r rs => simp [ropsOk] at hok
    | nil =>
      simp only [nseq, Option.some.injEq] at he
      subst he
      simpa [wpOpsIn] using hQ (env, H) (by simp) K a (Ext.refl _ _) hH hE rfl
  | o :: os, rs, i, K, H, env, a, outs, hops, hok, hH, hE, he, hQ => by
    cases rs with
    | nil => simp [ropsOk] at hok
    | cons r rs =>
      simp only [ropsOk, Bool.and_eq_true] at hok
      obtain ⟨hr, hok⟩ := hok
      simp only [ropOk, Bool.and_eq_true, beq_iff_eq] at hr
      obtain ⟨⟨⟨h1, h2⟩, h3⟩, h4⟩ := hr
      have hd : ∀ x, r.dst = some x → x < N := by
        intro x hx
        rw [hx] at h3
        simpa using h3
      have hoi : ops[i]? = some o := by simpa using hops 0 o (by simp)
      have hidx : (List.range (o :: os).length).map (i + ·) = i :: (List.range os.length).map (i + 1 + ·) := by
        rw [List.length_cons, List.range_succ_eq_map, List.map_cons, List.map_map, Nat.add_zero]
        congr 1
        apply List.map_congr_left
        intro j _
        simp; omega
      rw [hidx, wpOpsIn_cons]
      unfold wpOpIn
      simp only [hoi]
      simp only [nseq, Option.bind_eq_some_iff] at he
      obtain ⟨b, hb, he⟩ := he
      have hw := wanted_ok h4 hE hb
      have hops' : ∀ j o', os[j]? = some o' → ops[i + 1 + j]? = some o' := fun j o' hj => by
        have := hops (j + 1) o' (by simpa using hj)
        rwa [show i + (j + 1) = i + 1 + j from by omega] at this
      cases b
      · rw [hw]
        simp only [Bool.false_eq_true, if_false] at he ⊢
        rw [h2]
        exact ⟨fun _ _ => trivial, nseq_ok hT hex os rs (i + 1) K H _ _ outs hops' hok hH (hE.put hd (rep_skip K)) he (fun q hq K' a' h1 h2 h3 h4 => hQ q hq K' a' h1 h2 h3 (h4.trans (put_defers _ _ _)))⟩
      · rw [hw]
        simp only [if_true, Option.bind_eq_some_iff] at he ⊢
        obtain ⟨vs, hvs, he⟩ := he
        have step : ∀ v ∈ vs, ∀ K1 rv, Ext K H K1 v.2 → HRel K1 v.2 → Rep K1 v.1 rv → wpOpsIn (fc none) 0 P ops Q ((List.range os.length).map (i + 1 + ·)) (a.put o.dst rv) K1.w := by
          intro v hv K1 rv hX hH1 hrv
          obtain ⟨outs', ho1, ho2⟩ := bindL_mem he v hv
          rw [h2]
          exact nseq_ok hT hex os rs (i + 1) K1 v.2 _ _ outs' hops' hok hH1 ((hE.mono hX.le).put hd hrv) ho1 (fun q hq K' a' hX' h2 h3 h4 => hQ q (ho2 q hq) K' a' (hX.trans hX') h2 h3 (h4.trans (put_defers _ _ _)))
        unfold nop at hvs
        split at hvs
        · rename_i q hq
          simp only [Option.some.injEq] at hvs
          subst hvs
          obtain ⟨v, H1⟩ := q
          exact evOp_ok (callP_ok hT hex) (callO_ok hT hex) fzB_ok hT.meth h1 hE hH hq none _ _ (fun K1 rv hX hH1 hrv => step (v, H1) (by simp) K1 rv hX hH1 hrv)
        · split at hvs
          case h_2 => cases hvs
          rename_i e sz bytes s x heq
          rw [Option.map_eq_some_iff] at hvs
          obtain ⟨⟨A1, A2⟩, hA, rfl⟩ := hvs
          rw [heq] at h1
          simp only [opOk] at h1
          split at h1
          · rename_i as ts ho
            split at h1
            · rename_i S X t t' has hts
              simp only [Bool.and_eq_true, beq_iff_eq, decide_eq_true_eq] at h1
              obtain ⟨⟨⟨⟨⟨⟨rfl, g1⟩, g2⟩, g3⟩, g4⟩, g5⟩, g6⟩ := h1
              obtain ⟨ht, heT, hc, hp⟩ := sliceIs_spec g1
              obtain ⟨i', hi', hci, hbi⟩ := hasT_info heT
              rw [hi'] at g4
              simp only at g4
              split at g4
              · rename_i zv hz
                simp only [beq_iff_eq] at g4
                obtain rfl : sz = i'.size := by rw [← hc, hci]
                obtain rfl : bytes = i'.bytes := by rw [← g2, hbi]
                obtain ⟨as⟩ := as
                obtain ⟨ts⟩ := ts
                simp only at has hts
                subst has; subst hts
                exact ok_app2 ho ht hi' hz g4 hp g3 hH (opd_rep hE g5) (opd_rep hE g6) hA none _ _ (fun K1 rv hX hH1 hrv => step A1 (by simp) K1 rv hX hH1 hrv) (fun K1 rv hX hH1 hrv => step A2 (by simp) K1 rv hX hH1 hrv)
              · cases g4
            · cases h1
          · cases h1
/-- What a code's soundness says. -/
def NxOk (P : Program) (T : Table) (n : Nat) : Prop :=
  ∀ (B N : Nat) (pc : PCode) (c : Code) (K : KW) (H : Hp) (env : Env) (a : Act) (outs : List (PX × Env × Hp)), codeOk P N pc c = true → nxOk pc c = true → HRel K H → ERel K N env a → Marks B K a.defers → nx T n pc env H = some outs →
    ∀ (Q : Exit → Act → World → Prop), (∀ o ∈ outs, ∀ K' a', Ext K H K' o.2.2 → HRel K' o.2.2 → ERel K' N o.2.1 a' → Marks B K' a'.defers → Q o.1.to a' K'.w) → c.wpIn (fc none) 0 P Q a K.w
theorem nxloop_ok {n : Nat} (hex : ∀ m, m ≤ n → NxOk P T m) {B N : Nat} {p : PCode} {c : Code} {K : KW} {H : Hp} {env : Env} {a : Act} {outs : List (PX × Env × Hp)} (hok : codeOk P N p c = true) (hnx : nxOk p c = true) (hH : HRel K H) (hE : ERel K N env a) (hM : Marks B K a.defers)
    (he : nx T (n + 1) (.loop p) env H = some outs) (Q : Exit → Act → World → Prop) (hQ : ∀ o ∈ outs, ∀ K' a', Ext K H K' o.2.2 → HRel K' o.2.2 → ERel K' N o.2.1 a' → Marks B K' a'.defers → Q o.1.to a' K'.w) : (Code.loop c).wpIn (fc none) 0 P Q a K.w := by
  refine wpIn_loop_ghost (fun m a1 w1 => m ≤ n + 1 ∧ ∃ K1 H1 e1 outs1, K1.w = w1 ∧ Ext K H K1 H1 ∧ HRel K1 H1 ∧ ERel K1 N e1 a1 ∧ Marks B K1 a1.defers ∧ nx T m (.loop p) e1 H1 = some outs1 ∧ ∀ o ∈ outs1, o ∈ outs) (n + 1) ⟨Nat.le_refl _, K, H, env, outs, rfl, Ext.refl _ _, hH, hE, hM, he, fun _ h => h⟩ ?_
  rintro m a1 w1 ⟨hm, K1, H1, e1, outs1, rfl, hX1, hH1, hE1, hM1, he1, hsub⟩
  cases m with
  | zero => cases he1
  | succ m =>
    simp only [nx, Option.bind_eq_some_iff] at he1
    obtain ⟨os, h1, h2⟩ := he1
    refine hex m (by omega) B N p c K1 H1 e1 a1 os hok hnx hH1 hE1 hM1 h1 _ (fun o ho K2 a2 hX2 hH2 hE2 hM2 => ?_)
    obtain ⟨ys, g1, g2⟩ := bindL_mem h2 o ho
    obtain ⟨y, e2, H2⟩ := o
    cases y with
    | normal => exact ⟨m, by omega, by omega, K2, H2, e2, ys, rfl, hX1.trans hX2, hH2, hE2, hM2, g1, fun z hz => hsub z (g2 z hz)⟩
    | exit id =>
      simp only [Option.some.injEq] at g1
      subst g1
      exact hQ _ (hsub _ (g2 _ (by simp))) K2 a2 (hX1.trans hX2) hH2 hE2 hM2
    | ret =>
      simp only [Option.some.injEq] at g1
      subst g1
      exact hQ _ (hsub _ (g2 _ (by simp))) K2 a2 (hX1.trans hX2) hH2 hE2 hM2
theorem det_ok (hT : TOk P T) {n : Nat} {B N : Nat} {pc : PCode} {c : Code} {K : KW} {H : Hp} {env : Env} {a : Act} {outs : List (PX × Env × Hp)} (hok : codeOk P N pc c = true) (hH : HRel K H) (hE : ERel K N env a) (hM : Marks B K a.defers)
    (he : (pexec T n pc env H).map (fun q => [q]) = some outs) (Q : Exit → Act → World → Prop) (hQ : ∀ o ∈ outs, ∀ K' a', Ext K H K' o.2.2 → HRel K' o.2.2 → ERel K' N o.2.1 a' → Marks B K' a'.defers → Q o.1.to a' K'.w) : c.wpIn (fc none) 0 P Q a K.w := by
  rw [Option.map_eq_some_iff] at he
  obtain ⟨⟨x, e1, H1⟩, h1, rfl⟩ := he
  exact pexec_ok hT n none B N pc c K H env a x e1 H1 (.inl rfl) hok hH hE hM h1 Q (fun K' a' g1 g2 g3 g4 => hQ (x, e1, H1) (by simp) K' a' g1 g2 g3 g4)
theorem nx_all (hT : TOk P T) : ∀ n m, m ≤ n → NxOk P T m
  | 0, m, hm => by
    obtain rfl : m = 0 := by omega
    intro B N pc c K H env a outs _ _ _ _ _ he
    cases he
  | n + 1, m, hm => by
    rcases Nat.lt_or_ge m (n + 1) with h | h
    · exact nx_all hT n m (by omega)
    obtain rfl : m = n + 1 := by omega
    have ih := nx_all hT n
    intro B N pc c K H env a outs hok hnx hH hE hM he Q hQ
    cases pc
    case loop p =>
      simp only [codeOk] at hok
      split at hok
      · simp only [nxOk] at hnx
        exact nxloop_ok ih hok hnx hH hE hM he Q hQ
      · cases hok
    case seq p q =>
      simp only [codeOk] at hok
      split at hok
      case h_2 => cases hok
      rename_i a' b'
      simp only [Bool.and_eq_true] at hok
      simp only [nxOk, Bool.and_eq_true] at hnx
      simp only [nx, Option.bind_eq_some_iff] at he
      obtain ⟨os, h1, h2⟩ := he
      refine wpIn_seq ?_
      refine ih n (Nat.le_refl _) B N p a' K H env a os hok.1 hnx.1 hH hE hM h1 _ (fun o ho K1 a1 hX1 hH1 hE1 hM1 => ?_)
      obtain ⟨ys, g1, g2⟩ := bindL_mem h2 o ho
      obtain ⟨y, e1, H1⟩ := o
      cases y with
      | normal => exact ih n (Nat.le_refl _) B N q b' K1 H1 e1 a1 ys hok.2 hnx.2 hH1 hE1 hM1 g1 _ (fun z hz K' a' hX hH' hE' hM' => hQ z (g2 z hz) K' a' (hX1.trans hX) hH' hE' hM')
      | exit id =>
        simp only [Option.some.injEq] at g1
        subst g1
        exact hQ _ (g2 _ (by simp)) K1 a1 hX1 hH1 hE1 hM1
      | ret =>
        simp only [Option.some.injEq] at g1
        subst g1
        exact hQ _ (g2 _ (by simp)) K1 a1 hX1 hH1 hE1 hM1
    case cond q p1 p2 =>
      simp only [codeOk] at hok
      split at hok
      case h_2 => cases hok
      rename_i X a' b'
      simp only [Bool.and_eq_true] at hok
      simp only [nxOk, Bool.and_eq_true] at hnx
      simp only [nx] at he
      split at he
      case h_2 => cases he
      rename_i t ht
      have hx := opd_rep hE hok.1.1
      rw [ht] at hx
      have hx' : a.eval X = .bool t := hx
      refine wpIn_cond hx' ?_
      cases t
      · exact ih n (Nat.le_refl _) B N p2 b' K H env a outs hok.2 hnx.2 hH hE hM he Q hQ
      · exact ih n (Nat.le_refl _) B N p1 a' K H env a outs hok.1.2 hnx.1 hH hE hM he Q hQ
    case blk id p =>
      simp only [codeOk] at hok
      split at hok
      case h_2 => cases hok
      rename_i id' a'
      simp only [Bool.and_eq_true, beq_iff_eq] at hok
      obtain ⟨rfl, hok⟩ := hok
      simp only [nxOk] at hnx
      simp only [nx, Option.map_eq_some_iff] at he
      obtain ⟨os, h1, rfl⟩ := he
      refine wpIn_block ?_
      refine ih n (Nat.le_refl _) B N p a' K H env a os hok hnx hH hE hM h1 _ (fun o ho K1 a1 hX1 hH1 hE1 hM1 => ?_)
      have hq := hQ (unblk id' o) (List.mem_map.2 ⟨o, ho, rfl⟩) K1 a1
      obtain ⟨y, e1, H1⟩ := o
      cases y with
      | normal => exact hq hX1 hH1 hE1 hM1
      | ret => exact hq hX1 hH1 hE1 hM1
      | exit i =>
        simp only [PX.to, Exit.inBlock]
        simp only [unblk] at hq
        by_cases e : i = id'
        · simp only [if_pos e] at hq ⊢
          exact hq hX1 hH1 hE1 hM1
        · simp only [if_neg e] at hq ⊢
          exact hq hX1 hH1 hE1 hM1
    case reg rs chk live =>
      cases chk with
      | cons k ks => exact det_ok (n := n) hT hok hH hE hM (by simpa only [nx] using he) Q hQ
      | nil =>
        simp only [codeOk] at hok
        split at hok
        case h_2 => cases hok
        rename_i id ops draw
        simp only [nx] at he
        split at he
        case isFalse => exact det_ok (n := n) hT (by simpa only [codeOk] using hok) hH hE hM he Q hQ
        rename_i hap
        simp only [nxOk, hap, Bool.not_true, Bool.false_or, Bool.not_eq_true'] at hnx
        subst hnx
        simp only [Bool.and_eq_true] at hok
        simp only [Option.map_eq_some_iff] at he
        obtain ⟨qs, h1, rfl⟩ := he
        refine wpIn_region ?_
        have := nseq_ok (Q := Q) hT (pexec_ok hT n) ops.toList rs 0 K H env a qs (fun j o hj => by simpa using hj) hok.1 hH hE h1 (fun q hq K' a' g1 g2 g3 g4 => hQ (.normal, normE live q.1, q.2) (List.mem_map.2 ⟨q, hq, rfl⟩) K' a' g1 g2 (g3.norm live) (by rw [g4]; exact hM.ext hH g1))
        simpa using this
    case skip => exact det_ok (n := n) hT hok hH hE hM (by simpa only [nx] using he) Q hQ
    case trim p => exact det_ok (n := n) hT hok hH hE hM (by simpa only [nx] using he) Q hQ
    case rng x p q r => exact det_ok (n := n) hT hok hH hE hM (by simpa only [nx] using he) Q hQ
    case mrng M p q => exact det_ok (n := n) hT hok hH hE hM (by simpa only [nx] using he) Q hQ
    case ext id => exact det_ok (n := n) hT hok hH hE hM (by simpa only [nx] using he) Q hQ
    case ret => exact det_ok (n := n) hT hok hH hE hM (by simpa only [nx] using he) Q hQ
    case bad => exact det_ok (n := n) hT hok hH hE hM (by simpa only [nx] using he) Q hQ
/-- A call by value: each end brings the same. -/
def nxEnd (F : PFn) (r : PV) (o : PX × Env × Hp) : Bool := ends o.1 && (match (retV o.2.1 o.2.2 F.res).bind (frz o.2.2 .any 64) with | some v => PV.beq v r | none => false)
def ncall (T : Table) (n : Nat) (F : PFn) (args : List PV) (r : PV) : Bool := args.length == F.np && (match nx T n F.body (env0 args) [] with | some outs => outs.all (nxEnd F r) | none => false)
def nfnOk (P : Program) (f : Nat) (F : PFn) : Bool := match P.funcs[f]? with | some fn => (match fn.body with | some c => nxOk F.body c | none => false) | none => false
theorem ncall_ok (hT : TOk P T) {n f : Nat} {F : PFn} {args : List PV} {r : PV} (hF : fnOk P f F = true) (hN : nfnOk P f F = true) (h : ncall T n F args r = true) : PureOk P f args r := by
  unfold ncall at h
  simp only [Bool.and_eq_true, beq_iff_eq] at h
  obtain ⟨hnp, h⟩ := h
  split at h
  case h_2 => cases h
  rename_i outs ho
  obtain ⟨fn, c, hfn, hb, hin, hnt, hle, hres, hcode⟩ := fnOk_spec hF
  have hnx : nxOk F.body c = true := by
    unfold nfnOk at hN
    rw [hfn] at hN
    simp only [hb] at hN
    exact hN
  refine ⟨hin, fun w Z Y vs hlt ha => ?_⟩
  refine callsIn_wide.1 (callsIn_of_wp_marks (F := fc none) (n := 0) hfn hb trivial ?_)
  have hE := erel_enter ha hnp hle
  rw [← hnt] at hE
  refine nx_all hT n n (Nat.le_refl _) w.heap.size F.nt F.body c ⟨w, Z, Y, noMu⟩ [] (env0 args) _ outs hcode hnx (hrel_nil w Z Y hlt) (by rw [hnt] at hE; rw [hnt]; exact hE) ⟨Nat.le_refl _, (show MarksL _ _ [] from trivial)⟩ ho _ (fun o hoo K1 a1 hX1 hH1 hE11 hM1 => ?_)
  have hend := List.all_eq_true.1 h o hoo
  unfold nxEnd at hend
  simp only [Bool.and_eq_true] at hend
  obtain ⟨hends, hend⟩ := hend
  split at hend
  case h_2 => cases hend
  rename_i v' hv'
  have := PV.beq_eq _ _ hend
  subst this
  obtain ⟨v, hv, hfr⟩ := Option.bind_eq_some_iff.1 hv'
  refine ends_post hends (leaves_marks (K0 := ⟨w, Z, Y, noMu⟩) (H0 := []) a1.defers K1 hM1.2 hX1 hH1 hE11 fun K1 hX hH hE1 => ?_)
  obtain ⟨rv, hrv, hrep⟩ := run_retV hE1 hH hres hv
  refine ⟨rv, hrv, rv, rfl, hX.below, ?_⟩
  have hlive : ∀ g, Live K1 o.2.2 g → w.heap.size ≤ g ∧ g < K1.w.heap.size := fun g hg => ⟨(hX.live g hg).elim (by rintro ⟨b, B, n, hb, _⟩; simp at hb) id, hH.live_lt hg⟩
  obtain ⟨h1, h2⟩ := frz_spec (K' := ⟨K1.w, fun g => Z g ∨ (w.heap.size ≤ g ∧ g < K1.w.heap.size), Y, noMu⟩) (.inr rfl) hH rfl
    (fun g hg => (hX.zb g hg).imp id (fun q => ⟨q, hH.lt g (.inl hg)⟩)) (fun g hg => .inr (hX.yb g hg)) (fun g hg => .inl (.inr (hlive g hg))) 64 v v' rv hfr hrep
  exact h1
end
end Go.Proofs.Ytmbknidfkddpfaa.PM
