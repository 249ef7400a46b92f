/- Airports with planes: the first error. -/
import Derived.Test.YtmbknidfkddpfaaPmSeventeen
import Derived.Test.YtmbknidfkddpfaaAirVal
set_option linter.unusedVariables false
set_option linter.unusedSimpArgs false
set_option maxHeartbeats 1000000
namespace Go.Proofs.Ytmbknidfkddpfaa
open Go.Proofs.Ytmbknidfkddpfaa.PM

structure Pl where
  pos : Int
  wish : Int
  since : Int
  speed : Int
  left : Int
instance : Enc Pl where
  sz := 5
  enc p := [.int .i64 p.pos, .int .i64 p.wish, .int .i64 p.since, .int .i64 p.speed, .int .i64 p.left]
  dec | [.int .i64 a, .int .i64 b, .int .i64 c, .int .i64 d, .int .i64 e] => some ⟨a, b, c, d, e⟩ | _ => none
  cln _ := true
  pos := by decide
  len _ := rfl
  one _ := rfl
  pur _ := rfl
  hcln _ := rfl
  dec_enc _ := rfl
  enc_dec l x h := by
    split at h
    · simp only [Option.some.injEq] at h; subst h; rfl
    · cases h
instance : Flat Pl := ⟨fun _ _ _ _ => rfl⟩
@[simp] theorem sz_pl : Enc.sz Pl = 5 := rfl
@[simp] theorem enc_pl (p : Pl) : Enc.enc p = [.int .i64 p.pos, .int .i64 p.wish, .int .i64 p.since, .int .i64 p.speed, .int .i64 p.left] := rfl
@[simp] theorem dec_pl (a b c d e : Int) : (Enc.dec [PV.int .i64 a, .int .i64 b, .int .i64 c, .int .i64 d, .int .i64 e] : Option Pl) = some ⟨a, b, c, d, e⟩ := rfl
@[simp] theorem cln_pl (p : Pl) : Enc.cln p = true := rfl

structure Sk where
  fd : Fd
  nlp : Nl
  pls : List Pl
  now : Int
noncomputable abbrev vSk (s : Sk) : PV := .agg [lst s.fd.nl s.fd.nodes, .int .i64 s.fd.inn, lst s.nlp s.pls, .int .i64 s.now]

/-- The node's kind. -/
def kd (ns : List Nd) (i : Nat) : Int := match ns[i]? with | some n => n.kind | none => 0
theorem kd_eq {ns : List Nd} {i : Nat} (h : i < ns.length) : kd ns i = ns[i].kind := by simp [kd, h]
theorem kd_sym {ns : List Nd} {i : Nat} (h : i < ns.length) : ns[i].kind = kd ns i := (kd_eq h).symm
def vNode (k : Int) : PV := if k = 0 then .iface 78 (.agg []) else .iface 80 (.agg [.int .i64 k])
@[simp] theorem pureB_mptr (b g o : Nat) : PV.pureB (.mptr b g o) = false := rfl
@[simp] theorem clean_vNode (k : Int) : (vNode k).cleanB = true := by unfold vNode; split <;> rfl
theorem nodeOf_ok (f : Fd) (i : Int) (h0 : 0 ≤ i) (h1 : i < f.nodes.length) : R tb 36 [vFd f, .int .i64 i] = some (vNode (kd f.nodes i.toNat)) := by
  refine R_of_G (F := pf36) rfl rfl rfl ?_
  have hk := kd_eq (ns := f.nodes) (i := i.toNat) (by omega)
  simp (disch := omega) [pf36, env0_eq, hk, vNode]
  refine G_brd (fun h => ?_) (fun h => ?_)
  · simp (disch := omega) [h]
  · simp (disch := omega) [h]
theorem stackMany_ok : R tb 75 [.agg []] = some (.bool true) := R_of (n := 50) (by kernel_rfl)
theorem groundMany_ok (k : Int) : R tb 77 [.agg [.int .i64 k]] = some (.bool false) := by
  refine R_of_G (F := pf77) rfl rfl rfl ?_
  simp [pf77, env0_eq]
theorem stackEnds_ok (w : Int) : R tb 74 [.agg [], .int .i64 w] = some (.bool (decide (w = 2))) := by
  refine R_of_G (F := pf74) rfl rfl rfl ?_
  simp [pf74, env0_eq]
theorem groundEnds_ok (k w : Int) : R tb 76 [.agg [.int .i64 k], .int .i64 w] = some (.bool (decide (w = 1 ∧ k = 3))) := by
  refine R_of_G (F := pf76) rfl rfl rfl ?_
  simp (disch := omega) [pf76, env0_eq]
  refine G_grdd (fun h => ?_) (fun h => ?_)
  · simp (disch := omega) [h]
  · simp (disch := omega) [h]
@[simp] theorem tb_meth : tb.meth = mth := rfl
theorem many_ok (H : Hp) (k : Int) : evInv (R tb) fzB mth H "hinterland/air.many" (vNode k) [] = some (.bool (decide (k = 0))) := by
  unfold vNode
  split
  · rename_i hk; rw [evInv_iface (f := 75) (by decide)]; simp [hk, stackMany_ok]
  · rename_i hk; rw [evInv_iface (f := 77) (by decide)]; simp [hk, groundMany_ok]
theorem ends_ok (H : Hp) (k w : Int) : evInv (R tb) fzB mth H "hinterland/air.ends" (vNode k) [.int .i64 w] = some (.bool (decide (w = 2 ∧ k = 0 ∨ w = 1 ∧ k = 3))) := by
  unfold vNode
  split
  · rename_i hk; rw [evInv_iface (f := 74) (by decide)]; simp [hk, stackEnds_ok]
  · rename_i hk; rw [evInv_iface (f := 76) (by decide)]; simp [hk, groundEnds_ok]

def badPl (now : Int) (ps : List Pl) (i : Nat) : Bool := match ps[i]? with
  | some p => decide (p.wish < 0 ∨ 2 < p.wish ∨ p.since < 0 ∨ now < p.since ∨ p.speed < 1 ∨ 1000000 < p.speed ∨ p.left < 0 ∨ 1000000 < p.left)
  | none => false
def outPl (m : Nat) (ps : List Pl) (i : Nat) : Bool := match ps[i]? with
  | some p => decide (p.pos < -1 ∨ (m : Int) ≤ p.pos)
  | none => false
def hitPl (ns : List Nd) (p : Pl) (ps : List Pl) (k : Nat) : Bool := match ps[k]? with
  | some q => decide (0 ≤ p.pos ∧ p.pos = q.pos ∧ kd ns p.pos.toNat ≠ 0)
  | none => false
def takenPl (ns : List Nd) (ps : List Pl) (i : Nat) : Bool := match ps[i]? with
  | some p => anyN (hitPl ns p ps) 0 i
  | none => false
def skyErr (s : Sk) : Int := if fieldErr s.fd ≠ 0 then fieldErr s.fd else if (40 : Int) < s.pls.length then 4 else if s.now < 0 ∨ 1600000 < s.now then 1 else if anyN (badPl s.now s.pls) 0 s.pls.length then 1
  else if anyN (outPl s.fd.nodes.length s.pls) 0 s.pls.length then 2 else if anyN (takenPl s.fd.nodes s.pls) 0 s.pls.length then 7 else 0

theorem fieldErr_nodes {f : Fd} (h : fieldErr f = 0) : f.nodes.length ≤ 40 := by
  unfold fieldErr at h
  split at h
  · cases h
  · omega
theorem validateSky_ok (s : Sk) (hf : s.fd.nl ≠ .bor) (hp : s.nlp ≠ .bor) (hb : s.fd.nodes.length ≤ maxLen) (hpb : s.pls.length ≤ maxLen) (hc : ∀ n ∈ s.fd.nodes, n.on.length ≤ 400) : R tb 17 [vSk s] = some (.int .i64 (skyErr s)) := by
  have hm : maxLen = 9223372036854775807 := rfl
  have hv := validate_ok s.fd hf hb hc
  simp only [vFd] at hv
  refine R_of_G (F := pf17) rfl rfl rfl ?_
  simp (disch := omega) [pf17, env0_eq, hv]
  by_cases h0 : fieldErr s.fd = 0
  case neg => simp (disch := omega) [h0, skyErr]
  have hn := fieldErr_nodes h0
  simp (disch := omega) [h0]
  refine G_brd (fun h40 => ?_) (fun h40 => ?_)
  · simp (disch := omega) [h40, skyErr, h0]
  simp (disch := omega) [h40]
  refine G_grdn (fun h1 => ?_) (fun h1 => ?_)
  case refine_2 => simp (disch := omega) [h1, skyErr, h0, h40]
  simp (disch := omega) [h1]
  refine G_brd (fun h2 => ?_) (fun h2 => ?_)
  · simp (disch := omega) [h2, skyErr, h0, h40]
  simp (disch := omega) [h2]
  refine G_scanC [1, 31, 32] 33 (badPl s.now s.pls) s.pls.length 0 rfl (Nat.zero_le _) ?_
  rintro i e - hi hz hk hci
  simp only [Keep_cons, Keep_nil, get_cons, reduceIte, Nat.reduceEqDiff] at hk
  simp (disch := omega) [hk, hci]
  refine G_brd (fun h3 => ?_) (fun h3 => ?_)
  · have hb : badPl s.now s.pls i = decide (s.pls[i].wish < 0 ∨ 2 < s.pls[i].wish ∨ s.pls[i].since < 0 ∨ s.now < s.pls[i].since ∨ s.pls[i].speed < 1 ∨ 1000000 < s.pls[i].speed ∨ s.pls[i].left < 0 ∨ 1000000 < s.pls[i].left) := by simp [badPl, h3]
    by_cases hbb : s.pls[i].wish < 0 ∨ 2 < s.pls[i].wish ∨ s.pls[i].since < 0 ∨ s.now < s.pls[i].since ∨ s.pls[i].speed < 1 ∨ 1000000 < s.pls[i].speed ∨ s.pls[i].left < 0 ∨ 1000000 < s.pls[i].left
    · have hn : anyN (badPl s.now s.pls) 0 s.pls.length = true := anyN_t (Nat.zero_le i) h3 (by rw [hb]; exact decide_eq_true hbb)
      have he : skyErr s = 1 := by simp [skyErr, h0, h40, h1, h2, hn]
      simp (disch := omega) [h3]
      repeat' (first | with_reducible refine G_grdn (fun h_ => ?_) (fun h_ => ?_) | with_reducible refine G_grdd (fun h_ => ?_) (fun h_ => ?_) | with_reducible refine G_brd (fun h_ => ?_) (fun h_ => ?_) | with_reducible refine G_br (fun h_ => ?_) (fun h_ => ?_) | with_reducible refine G_grd (fun h_ => ?_) (fun h_ => ?_) | simp (disch := omega) [*, Nat.zero_le])
      all_goals omega
    · have hb' : badPl s.now s.pls i = false := by rw [hb]; exact decide_eq_false hbb
      simp (disch := omega) [h3]
      repeat' (first | with_reducible refine G_grdn (fun h_ => ?_) (fun h_ => ?_) | with_reducible refine G_grdd (fun h_ => ?_) (fun h_ => ?_) | with_reducible refine G_brd (fun h_ => ?_) (fun h_ => ?_) | with_reducible refine G_br (fun h_ => ?_) (fun h_ => ?_) | with_reducible refine G_grd (fun h_ => ?_) (fun h_ => ?_) | simp (disch := omega) [*, Nat.zero_le])
      all_goals omega
  have hn3 : anyN (badPl s.now s.pls) 0 s.pls.length = false := anyN_cut hz (by omega)
  simp (disch := omega) [h3]
  refine G_scanC [1, 79, 80] 81 (outPl s.fd.nodes.length s.pls) s.pls.length 0 rfl (Nat.zero_le _) ?_
  rintro i e - hi hz hk hci
  simp only [Keep_cons, Keep_nil, get_cons, reduceIte, Nat.reduceEqDiff] at hk
  simp (disch := omega) [hk, hci]
  refine G_brd (fun h4 => ?_) (fun h4 => ?_)
  · have hb : outPl s.fd.nodes.length s.pls i = decide (s.pls[i].pos < -1 ∨ (s.fd.nodes.length : Int) ≤ s.pls[i].pos) := by simp [outPl, h4]
    by_cases hbb : s.pls[i].pos < -1 ∨ (s.fd.nodes.length : Int) ≤ s.pls[i].pos
    · have hn : anyN (outPl s.fd.nodes.length s.pls) 0 s.pls.length = true := anyN_t (Nat.zero_le i) h4 (by rw [hb]; exact decide_eq_true hbb)
      have he : skyErr s = 2 := by simp [skyErr, h0, h40, h1, h2, hn3, hn]
      simp (disch := omega) [h4]
      repeat' (first | with_reducible refine G_grdn (fun h_ => ?_) (fun h_ => ?_) | with_reducible refine G_grdd (fun h_ => ?_) (fun h_ => ?_) | with_reducible refine G_brd (fun h_ => ?_) (fun h_ => ?_) | with_reducible refine G_br (fun h_ => ?_) (fun h_ => ?_) | with_reducible refine G_grd (fun h_ => ?_) (fun h_ => ?_) | simp (disch := omega) [*, Nat.zero_le])
      all_goals omega
    · have hb' : outPl s.fd.nodes.length s.pls i = false := by rw [hb]; exact decide_eq_false hbb
      simp (disch := omega) [h4]
      repeat' (first | with_reducible refine G_grdn (fun h_ => ?_) (fun h_ => ?_) | with_reducible refine G_grdd (fun h_ => ?_) (fun h_ => ?_) | with_reducible refine G_brd (fun h_ => ?_) (fun h_ => ?_) | with_reducible refine G_br (fun h_ => ?_) (fun h_ => ?_) | with_reducible refine G_grd (fun h_ => ?_) (fun h_ => ?_) | simp (disch := omega) [*, Nat.zero_le])
      all_goals omega
  have hn4 : anyN (outPl s.fd.nodes.length s.pls) 0 s.pls.length = false := anyN_cut hz (by omega)
  simp (disch := omega) [h4]
  refine G_scanC [1, 99, 100] 101 (takenPl s.fd.nodes s.pls) s.pls.length 0 rfl (Nat.zero_le _) ?_
  rintro i e - hi hz hk hci
  simp only [Keep_cons, Keep_nil, get_cons, reduceIte, Nat.reduceEqDiff] at hk
  simp (disch := omega) [hk, hci]
  refine G_brd (fun h5 => ?_) (fun h5 => ?_)
  · have hb : takenPl s.fd.nodes s.pls i = anyN (hitPl s.fd.nodes s.pls[i] s.pls) 0 i := by simp [takenPl, h5]
    have hpo := anyN_off hn4 (Nat.zero_le i) h5
    simp (disch := omega) [outPl, h5] at hpo
    simp (disch := omega) [h5]
    refine G_scanC [1, 9, 99, 100, 101, 109, 110] 111 (hitPl s.fd.nodes s.pls[i] s.pls) i 0 (by simp) (Nat.zero_le _) ?_
    rintro k e' - hi' hz' hk' hci'
    simp (disch := omega) [hk] at hk'
    simp (disch := omega) [hk', hci']
    have hno := nodeOf_ok s.fd
    simp only [vFd] at hno
    have hti : (s.pls.take i).length = i := by rw [List.length_take]; omega
    refine G_brd (fun h6 => ?_) (fun h6 => ?_)
    · have hkk : s.pls[i].pos = s.pls[k].pos → kd s.fd.nodes s.pls[i].pos.toNat = kd s.fd.nodes s.pls[k].pos.toNat := fun q => by rw [q]
      have hb2 : hitPl s.fd.nodes s.pls[i] s.pls k = decide (0 ≤ s.pls[i].pos ∧ s.pls[i].pos = s.pls[k].pos ∧ kd s.fd.nodes s.pls[i].pos.toNat ≠ 0) := by simp (disch := omega) [hitPl, h5]
      by_cases hbb : 0 ≤ s.pls[i].pos ∧ s.pls[i].pos = s.pls[k].pos ∧ kd s.fd.nodes s.pls[i].pos.toNat ≠ 0
      · have hn6 : anyN (hitPl s.fd.nodes s.pls[i] s.pls) 0 i = true := anyN_t (Nat.zero_le k) h6 (by rw [hb2]; exact decide_eq_true hbb)
        have hn5 : anyN (takenPl s.fd.nodes s.pls) 0 s.pls.length = true := anyN_t (Nat.zero_le i) h5 (by rw [hb]; exact hn6)
        have he : skyErr s = 7 := by simp [skyErr, h0, h40, h1, h2, hn3, hn4, hn5]
        simp (disch := omega) [h6, h5, hbb]
        repeat' (first | with_reducible refine G_grdn (fun h_ => ?_) (fun h_ => ?_) | with_reducible refine G_grdd (fun h_ => ?_) (fun h_ => ?_) | with_reducible refine G_brd (fun h_ => ?_) (fun h_ => ?_) | with_reducible refine G_br (fun h_ => ?_) (fun h_ => ?_) | with_reducible refine G_grd (fun h_ => ?_) (fun h_ => ?_) | simp (disch := omega) [*, many_ok, kd_sym])
        all_goals try omega
      · have hb' : hitPl s.fd.nodes s.pls[i] s.pls k = false := by rw [hb2]; exact decide_eq_false hbb
        simp (disch := omega) [h6, h5]
        repeat' (first | with_reducible refine G_grdn (fun h_ => ?_) (fun h_ => ?_) | with_reducible refine G_grdd (fun h_ => ?_) (fun h_ => ?_) | with_reducible refine G_brd (fun h_ => ?_) (fun h_ => ?_) | with_reducible refine G_br (fun h_ => ?_) (fun h_ => ?_) | with_reducible refine G_grd (fun h_ => ?_) (fun h_ => ?_) | simp (disch := omega) [*, many_ok, kd_sym])
        all_goals try omega
    · have hn6 : anyN (hitPl s.fd.nodes s.pls[i] s.pls) 0 i = false := anyN_cut hz' (by omega)
      have hb' : takenPl s.fd.nodes s.pls i = false := by rw [hb]; exact hn6
      simp (disch := omega) [h6, hb', h5]
  have hn5 : anyN (takenPl s.fd.nodes s.pls) 0 s.pls.length = false := anyN_cut hz (by omega)
  have he : skyErr s = 0 := by simp [skyErr, h0, h40, h1, h2, hn3, hn4, hn5]
  simp (disch := omega) [h5, he]
theorem within_d (n a b : Int) : R tb 35 [.int .i64 n, .int .i64 a, .int .i64 b] = some (.bool (decide (a ≤ n ∧ n ≤ b))) := within_ok n a b
theorem refValidateSky_ok (s : Sk) (hf : s.fd.nl ≠ .bor) (hp : s.nlp ≠ .bor) (hb : s.fd.nodes.length ≤ maxLen) (hpb : s.pls.length ≤ maxLen) (hc : ∀ n ∈ s.fd.nodes, n.on.length ≤ 400) : R tb 18 [vSk s] = some (.int .i64 (skyErr s)) := by
  have hm : maxLen = 9223372036854775807 := rfl
  have hv := refValidate_ok s.fd hf hb hc
  simp only [vFd] at hv
  refine R_of_G (F := pf18) rfl rfl rfl ?_
  simp (disch := omega) [pf18, env0_eq, hv]
  by_cases h0 : fieldErr s.fd = 0
  case neg => simp (disch := omega) [h0, skyErr]
  have hn := fieldErr_nodes h0
  simp (disch := omega) [h0]
  refine G_brd (fun h40 => ?_) (fun h40 => ?_)
  · simp (disch := omega) [h40, skyErr, h0]
  simp (disch := omega) [h40]
  simp (disch := omega) [within_d, -Bool.decide_and]
  refine G_brd (fun h1 => ?_) (fun h1 => ?_)
  case refine_2 =>
    have he : skyErr s = 1 := by simp [skyErr, h0, h40]; omega
    simp (disch := omega) [h1, he]
  obtain ⟨h1, h2⟩ := h1
  have h1 : ¬ s.now < 0 := by omega
  have h2 : ¬ 1600000 < s.now := by omega
  simp (disch := omega) [h1, h2]
  refine G_scanC [1, 27, 28] 29 (badPl s.now s.pls) s.pls.length 0 rfl (Nat.zero_le _) ?_
  rintro i e - hi hz hk hci
  simp only [Keep_cons, Keep_nil, get_cons, reduceIte, Nat.reduceEqDiff] at hk
  simp (disch := omega) [hk, hci]
  refine G_brd (fun h3 => ?_) (fun h3 => ?_)
  · have hb : badPl s.now s.pls i = decide (s.pls[i].wish < 0 ∨ 2 < s.pls[i].wish ∨ s.pls[i].since < 0 ∨ s.now < s.pls[i].since ∨ s.pls[i].speed < 1 ∨ 1000000 < s.pls[i].speed ∨ s.pls[i].left < 0 ∨ 1000000 < s.pls[i].left) := by simp [badPl, h3]
    by_cases hbb : s.pls[i].wish < 0 ∨ 2 < s.pls[i].wish ∨ s.pls[i].since < 0 ∨ s.now < s.pls[i].since ∨ s.pls[i].speed < 1 ∨ 1000000 < s.pls[i].speed ∨ s.pls[i].left < 0 ∨ 1000000 < s.pls[i].left
    · have hn : anyN (badPl s.now s.pls) 0 s.pls.length = true := anyN_t (Nat.zero_le i) h3 (by rw [hb]; exact decide_eq_true hbb)
      have he : skyErr s = 1 := by simp [skyErr, h0, h40, h1, h2, hn]
      simp (disch := omega) [h3, within_d, -Bool.decide_and]
      repeat' (first | with_reducible refine G_grdn (fun h_ => ?_) (fun h_ => ?_) | with_reducible refine G_grdd (fun h_ => ?_) (fun h_ => ?_) | with_reducible refine G_brd (fun h_ => ?_) (fun h_ => ?_) | with_reducible refine G_br (fun h_ => ?_) (fun h_ => ?_) | with_reducible refine G_grd (fun h_ => ?_) (fun h_ => ?_) | simp (disch := omega) [*, within_d, -Bool.decide_and])
      all_goals omega
    · have hb' : badPl s.now s.pls i = false := by rw [hb]; exact decide_eq_false hbb
      simp (disch := omega) [h3, within_d, -Bool.decide_and]
      repeat' (first | with_reducible refine G_grdn (fun h_ => ?_) (fun h_ => ?_) | with_reducible refine G_grdd (fun h_ => ?_) (fun h_ => ?_) | with_reducible refine G_brd (fun h_ => ?_) (fun h_ => ?_) | with_reducible refine G_br (fun h_ => ?_) (fun h_ => ?_) | with_reducible refine G_grd (fun h_ => ?_) (fun h_ => ?_) | simp (disch := omega) [*, within_d, -Bool.decide_and])
      all_goals omega
  have hn3 : anyN (badPl s.now s.pls) 0 s.pls.length = false := anyN_cut hz (by omega)
  simp (disch := omega) [h3]
  refine G_scanC [1, 59, 60] 61 (outPl s.fd.nodes.length s.pls) s.pls.length 0 rfl (Nat.zero_le _) ?_
  rintro i e - hi hz hk hci
  simp only [Keep_cons, Keep_nil, get_cons, reduceIte, Nat.reduceEqDiff] at hk
  simp (disch := omega) [hk, hci]
  refine G_brd (fun h4 => ?_) (fun h4 => ?_)
  · have hb : outPl s.fd.nodes.length s.pls i = decide (s.pls[i].pos < -1 ∨ (s.fd.nodes.length : Int) ≤ s.pls[i].pos) := by simp [outPl, h4]
    by_cases hbb : s.pls[i].pos < -1 ∨ (s.fd.nodes.length : Int) ≤ s.pls[i].pos
    · have hn : anyN (outPl s.fd.nodes.length s.pls) 0 s.pls.length = true := anyN_t (Nat.zero_le i) h4 (by rw [hb]; exact decide_eq_true hbb)
      have he : skyErr s = 2 := by simp [skyErr, h0, h40, h1, h2, hn3, hn]
      simp (disch := omega) [h4, within_d, -Bool.decide_and]
      repeat' (first | with_reducible refine G_grdn (fun h_ => ?_) (fun h_ => ?_) | with_reducible refine G_grdd (fun h_ => ?_) (fun h_ => ?_) | with_reducible refine G_brd (fun h_ => ?_) (fun h_ => ?_) | with_reducible refine G_br (fun h_ => ?_) (fun h_ => ?_) | with_reducible refine G_grd (fun h_ => ?_) (fun h_ => ?_) | simp (disch := omega) [*, within_d, -Bool.decide_and])
      all_goals omega
    · have hb' : outPl s.fd.nodes.length s.pls i = false := by rw [hb]; exact decide_eq_false hbb
      simp (disch := omega) [h4, within_d, -Bool.decide_and]
      repeat' (first | with_reducible refine G_grdn (fun h_ => ?_) (fun h_ => ?_) | with_reducible refine G_grdd (fun h_ => ?_) (fun h_ => ?_) | with_reducible refine G_brd (fun h_ => ?_) (fun h_ => ?_) | with_reducible refine G_br (fun h_ => ?_) (fun h_ => ?_) | with_reducible refine G_grd (fun h_ => ?_) (fun h_ => ?_) | simp (disch := omega) [*, within_d, -Bool.decide_and])
      all_goals omega
  have hn4 : anyN (outPl s.fd.nodes.length s.pls) 0 s.pls.length = false := anyN_cut hz (by omega)
  simp (disch := omega) [h4]
  refine G_scanC [1, 76, 77] 78 (takenPl s.fd.nodes s.pls) s.pls.length 0 rfl (Nat.zero_le _) ?_
  rintro i e - hi hz hk hci
  simp only [Keep_cons, Keep_nil, get_cons, reduceIte, Nat.reduceEqDiff] at hk
  simp (disch := omega) [hk, hci]
  refine G_brd (fun h5 => ?_) (fun h5 => ?_)
  · have hb : takenPl s.fd.nodes s.pls i = anyN (hitPl s.fd.nodes s.pls[i] s.pls) 0 i := by simp [takenPl, h5]
    have hpo := anyN_off hn4 (Nat.zero_le i) h5
    simp (disch := omega) [outPl, h5] at hpo
    simp (disch := omega) [h5]
    refine G_scanC [1, 9, 76, 77, 78, 86, 87] 88 (hitPl s.fd.nodes s.pls[i] s.pls) i 0 (by simp) (Nat.zero_le _) ?_
    rintro k e' - hi' hz' hk' hci'
    simp (disch := omega) [hk] at hk'
    simp (disch := omega) [hk', hci']
    have hno := nodeOf_ok s.fd
    simp only [vFd] at hno
    have hti : (s.pls.take i).length = i := by rw [List.length_take]; omega
    refine G_brd (fun h6 => ?_) (fun h6 => ?_)
    · have hkk : s.pls[i].pos = s.pls[k].pos → kd s.fd.nodes s.pls[i].pos.toNat = kd s.fd.nodes s.pls[k].pos.toNat := fun q => by rw [q]
      have hb2 : hitPl s.fd.nodes s.pls[i] s.pls k = decide (0 ≤ s.pls[i].pos ∧ s.pls[i].pos = s.pls[k].pos ∧ kd s.fd.nodes s.pls[i].pos.toNat ≠ 0) := by simp (disch := omega) [hitPl, h5]
      by_cases hbb : 0 ≤ s.pls[i].pos ∧ s.pls[i].pos = s.pls[k].pos ∧ kd s.fd.nodes s.pls[i].pos.toNat ≠ 0
      · have hn6 : anyN (hitPl s.fd.nodes s.pls[i] s.pls) 0 i = true := anyN_t (Nat.zero_le k) h6 (by rw [hb2]; exact decide_eq_true hbb)
        have hn5 : anyN (takenPl s.fd.nodes s.pls) 0 s.pls.length = true := anyN_t (Nat.zero_le i) h5 (by rw [hb]; exact hn6)
        have he : skyErr s = 7 := by simp [skyErr, h0, h40, h1, h2, hn3, hn4, hn5]
        simp (disch := omega) [h6, h5, hbb]
        repeat' (first | with_reducible refine G_grdn (fun h_ => ?_) (fun h_ => ?_) | with_reducible refine G_grdd (fun h_ => ?_) (fun h_ => ?_) | with_reducible refine G_brd (fun h_ => ?_) (fun h_ => ?_) | with_reducible refine G_br (fun h_ => ?_) (fun h_ => ?_) | with_reducible refine G_grd (fun h_ => ?_) (fun h_ => ?_) | simp (disch := omega) [*, many_ok, kd_sym])
        all_goals try omega
      · have hb' : hitPl s.fd.nodes s.pls[i] s.pls k = false := by rw [hb2]; exact decide_eq_false hbb
        simp (disch := omega) [h6, h5]
        repeat' (first | with_reducible refine G_grdn (fun h_ => ?_) (fun h_ => ?_) | with_reducible refine G_grdd (fun h_ => ?_) (fun h_ => ?_) | with_reducible refine G_brd (fun h_ => ?_) (fun h_ => ?_) | with_reducible refine G_br (fun h_ => ?_) (fun h_ => ?_) | with_reducible refine G_grd (fun h_ => ?_) (fun h_ => ?_) | simp (disch := omega) [*, many_ok, kd_sym])
        all_goals try omega
    · have hn6 : anyN (hitPl s.fd.nodes s.pls[i] s.pls) 0 i = false := anyN_cut hz' (by omega)
      have hb' : takenPl s.fd.nodes s.pls i = false := by rw [hb]; exact hn6
      simp (disch := omega) [h6, hb', h5]
  have hn5 : anyN (takenPl s.fd.nodes s.pls) 0 s.pls.length = false := anyN_cut hz (by omega)
  have he : skyErr s = 0 := by simp [skyErr, h0, h40, h1, h2, hn3, hn4, hn5]
  simp (disch := omega) [h5, he]
theorem large_le {f : Fd} (h : large f = false) : ∀ n ∈ f.nodes, n.on.length ≤ 400 := by
  intro n hn
  obtain ⟨i, hi, rfl⟩ := List.getElem_of_mem hn
  simp only [large, Bool.or_eq_false_iff] at h
  apply Classical.byContradiction
  intro hno
  have := anyN_t (f := longNd f.nodes) (Nat.zero_le i) hi (by simp [longNd, hi]; omega)
  rw [this] at h
  cases h.1
theorem skies_ok (s : Sk) (hf : s.fd.nl ≠ .bor) (hp : s.nlp ≠ .bor) (hb : s.fd.nodes.length ≤ maxLen) (hpb : s.pls.length ≤ maxLen) : R tb 4 [vSk s] = some (.bool true) := by
  have h1 := large_ok s.fd hf hb
  simp only [vFd] at h1
  refine R_of_G (F := pf4) rfl rfl rfl ?_
  simp (disch := omega) [pf4, env0_eq, h1]
  cases hl : large s.fd
  · have hc := large_le hl
    have h2 := validateSky_ok s hf hp hb hpb hc
    have h3 := refValidateSky_ok s hf hp hb hpb hc
    simp only [vSk] at h2 h3
    simp (disch := omega) [hl, known_ok]
    refine G_brd (fun h => ?_) (fun h => ?_)
    · simp (disch := omega) [h, known_ok]
    · simp (disch := omega) [h, h2, h3, known_ok]
  · simp (disch := omega) [hl, known_ok]
end Go.Proofs.Ytmbknidfkddpfaa
