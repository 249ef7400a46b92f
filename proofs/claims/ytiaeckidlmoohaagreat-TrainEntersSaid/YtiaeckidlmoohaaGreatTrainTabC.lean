/- Trains: the table with all functions. -/
import Derived.Test.YtiaeckidlmoohaaGreatTrainKnown
import Derived.Test.YtiaeckidlmoohaaGreatTrainCodeM
import Derived.Test.YtiaeckidlmoohaaGreatTrainNatA
import Derived.Test.YtiaeckidlmoohaaGreatTrainNatA
import Derived.Test.YtiaeckidlmoohaaGreatTrainNatA
import Derived.Test.YtiaeckidlmoohaaGreatTrainBit
import Derived.KernelRfl
set_option maxRecDepth 100000
namespace Go.Proofs.YtiaeckidlmoohaaGreat
open Go.Proofs.YtiaeckidlmoohaaGreat.PM
def tc_l : List (Nat × PFn) := [(15, pf15), (19, pf19), (22, pf22), (27, pf27), (38, pf38), (45, pf45), (46, pf46), (50, pf50), (51, pf51), (52, pf52), (62, pf62), (63, pf63), (64, pf64), (65, pf65), (66, pf66), (67, pf67), (68, pf68), (73, pf73), (74, pf74), (80, pf80), (81, pf81), (83, pf83), (92, pf92), (99, pf99), (100, pf100), (101, pf101), (103, pf103), (111, pf111), (112, pf112), (113, pf113), (114, pf114), (115, pf115), (118, pf118), (139, pf139), (141, pf141), (148, pf148), (151, pf151), (152, pf152), (161, pf161), (165, pf165), (166, pf166)]
theorem tc_fns : ∀ x ∈ tc_l, fnOk Tryz.prog x.1 x.2 = true := List.all_eq_true.1 (by kernel_rfl)
def natT (f : Nat) (args : List PV) : Option PV := match args with
  | [.int .u64 n] => if f = 181 ∧ 0 ≤ n ∧ n ≤ 18446744073709551615 then some (.int .i64 (Lib.bitLen n.toNat)) else none
  | [.list _ sz []] => if (f = 78 ∧ sz = 3) ∨ (f = 119 ∧ sz = 1) ∨ (f = 120 ∧ sz = 1) ∨ (f = 121 ∧ sz = 4) ∨ (f = 122 ∧ sz = 6) then some (.list .any sz []) else none
  | _ => none
noncomputable def natOT (f : Nat) (args : List PV) (H : Hp) : Option (PV × Hp) := match args with
  | [.list _ sz []] => if (f = 78 ∧ sz = 3) ∨ (f = 123 ∧ sz = 5) then some (.list .ex sz [], H) else none
  | _ => (natI f args H).or (natS f args H)
theorem natT_ok : ∀ f args r, natT f args = some r → PureOk Tryz.prog f args r := by
  intro f args r h
  unfold natT at h
  split at h
  · rename_i n
    split at h
    case isFalse => cases h
    rename_i hn
    obtain ⟨rfl, h0, h1⟩ := hn
    simp only [Option.some.injEq] at h
    subst h
    refine ⟨⟨Tryz.f181, rfl, by decide, rfl⟩, fun w Z Y vs hl hr => ?_⟩
    obtain ⟨v, l, e, hv, hl2⟩ := hr
    have : vs = #[.int .u64 n] := by
      apply Array.ext'
      rw [e, show v = .int .u64 n from hv, show l = [] from hl2]
    subst this
    refine (len64_all n w h0 h1).mono ?_
    rintro e w' ⟨rfl, rfl⟩
    exact ⟨_, rfl, Go.RowKit.Below.refl _ _, rfl⟩
  · rename_i nl sz
    split at h
    case isFalse => cases h
    rename_i hf
    simp only [Option.some.injEq] at h
    subst h
    rcases hf with ⟨rfl, rfl⟩ | ⟨rfl, rfl⟩ | ⟨rfl, rfl⟩ | ⟨rfl, rfl⟩ | ⟨rfl, rfl⟩
    · exact clone_pure (by decide) ⟨Tryz.f78, rfl, by decide, rfl⟩ clone78_nil clone78_some nl
    · exact clone_pure (by decide) ⟨Tryz.f119, rfl, by decide, rfl⟩ clone119_nil clone119_some nl
    · exact clone_pure (by decide) ⟨Tryz.f120, rfl, by decide, rfl⟩ clone120_nil clone120_some nl
    · exact clone_pure (by decide) ⟨Tryz.f121, rfl, by decide, rfl⟩ clone121_nil clone121_some nl
    · exact clone_pure (by decide) ⟨Tryz.f122, rfl, by decide, rfl⟩ clone122_nil clone122_some nl
  · cases h
theorem natOT_ok : ∀ f args H r H', natOT f args H = some (r, H') → OpenOk Tryz.prog f args H r H' := by
  intro f args H r H' h
  unfold natOT at h
  split at h
  · rename_i nl sz
    split at h
    case isFalse => cases h
    rename_i hf
    simp only [Option.some.injEq, Prod.mk.injEq] at h
    obtain ⟨rfl, rfl⟩ := h
    rcases hf with ⟨rfl, rfl⟩ | ⟨rfl, rfl⟩
    · exact clone_open (by decide) ⟨Tryz.f78, rfl, by decide, rfl⟩ clone78_nil clone78_some nl H
    · exact clone_open (by decide) ⟨Tryz.f123, rfl, by decide, rfl⟩ clone123_nil clone123_some nl H
  · rw [Option.or_eq_some_iff] at h
    rcases h with h | ⟨_, h⟩
    · exact natI_ok f args H r H' h
    · exact natS_ok f args H r H' h
noncomputable def tc0 : Table := ⟨tb0_l ++ tc_l, natT, natOT, fun _ _ => none, fun _ _ => none⟩
theorem tc0_ok : TOk Tryz.prog tc0 := ⟨fun x h => (List.mem_append.1 h).elim (tb0_fns x) (tc_fns x), natT_ok, natOT_ok, fun _ _ _ h => (by cases h), fun _ _ _ h => (by cases h), tb0_ok.mix⟩
noncomputable def tc : Table := tc0.withMemo LK
theorem tc_ok : TOk Tryz.prog tc := tc0_ok.memo (.cons known0 .nil)
theorem tc_nat {f : Nat} (args : List PV) (h : ([20, 181, 78, 119, 120, 121, 122] : List Nat).elem f = false) : tc.nat f args = none := by
  have h : f ≠ 20 ∧ f ≠ 181 ∧ f ≠ 78 ∧ f ≠ 119 ∧ f ≠ 120 ∧ f ≠ 121 ∧ f ≠ 122 := by
    refine ⟨?_, ?_, ?_, ?_, ?_, ?_, ?_⟩ <;> (rintro rfl; simp at h)
  have h1 : memo LK f args = none := by
    simp only [LK, memo]
    rw [if_neg (fun e => h.1 e.symm)]
  have h2 : natT f args = none := by
    unfold natT
    split
    · rw [if_neg (fun e => h.2.1 e.1)]
    · rw [if_neg]
      rintro (q | q | q | q | q)
      · exact h.2.2.1 q.1
      · exact h.2.2.2.1 q.1
      · exact h.2.2.2.2.1 q.1
      · exact h.2.2.2.2.2.1 q.1
      · exact h.2.2.2.2.2.2 q.1
    · rfl
  show (match memo LK f args with | some r => some r | none => natT f args) = none
  rw [h1]; exact h2
theorem tc_natO {f : Nat} (args : List PV) (H : Hp) (h : ([78, 123, 146, 147, 137] : List Nat).elem f = false) : tc.natO f args H = none := by
  have h : f ≠ 78 ∧ f ≠ 123 ∧ f ≠ 146 ∧ f ≠ 147 ∧ f ≠ 137 := by
    refine ⟨?_, ?_, ?_, ?_, ?_⟩ <;> (rintro rfl; simp at h)
  show natOT f args H = none
  unfold natOT
  split
  · rw [if_neg]
    rintro (q | q)
    · exact h.1 q.1
    · exact h.2.1 q.1
  · have h1 : natI f args H = none := by
      unfold natI
      split
      · rw [if_neg h.2.2.1, if_neg h.2.2.2.1]
      · rfl
    have h2 : natS f args H = none := by
      unfold natS
      split
      · rw [if_neg h.2.2.2.2]
      · rfl
    rw [h1, h2]; rfl
theorem knownC_ok : R tc 20 [] = some (.bool true) := R_of (n := 3) (by kernel_rfl)
end Go.Proofs.YtiaeckidlmoohaaGreat
