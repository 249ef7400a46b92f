/- Airports: lists and skies that are alike; copies. -/
import Derived.Test.YtmbknidfkddpfaaAirSky
set_option linter.unusedVariables false
set_option linter.unusedSimpArgs false
set_option maxHeartbeats 1000000
namespace Go.Proofs.Ytmbknidfkddpfaa
open Go.Proofs.Ytmbknidfkddpfaa.PM

theorem sameInts_ok (n1 n2 : Nl) (xs : List Int) (hb : xs.length ≤ maxLen) : R tb 21 [lst n1 xs, lst n2 xs] = some (.bool true) := by
  have hm : maxLen = 9223372036854775807 := rfl
  refine R_of_G (F := pf21) rfl rfl rfl ?_
  simp (disch := omega) [pf21, env0_eq]
  refine G_scanC [0, 1] 5 (fun _ => false) xs.length 0 (by simp) (Nat.zero_le _) ?_
  rintro i e - hi hz hk hci
  simp at hk
  simp (disch := omega) [hk, hci]
  refine G_brd (fun h => ?_) (fun h => ?_)
  · simp (disch := omega) [h]
  · simp (disch := omega) [h]
theorem samePls_ok (n1 n2 : Nl) (xs : List Pl) (hb : xs.length ≤ maxLen) : R tb 48 [lst n1 xs, lst n2 xs] = some (.bool true) := by
  have hm : maxLen = 9223372036854775807 := rfl
  refine R_of_G (F := pf48) rfl rfl rfl ?_
  simp (disch := omega) [pf48, env0_eq]
  refine G_scanC [0, 1] 5 (fun _ => false) xs.length 0 (by simp) (Nat.zero_le _) ?_
  rintro i e - hi hz hk hci
  simp at hk
  simp (disch := omega) [hk, hci]
  refine G_brd (fun h => ?_) (fun h => ?_)
  · simp (disch := omega) [h]
  · simp (disch := omega) [h]

/-- Nodes that are alike. -/
def Alike (xs ys : List Nd) : Prop := xs.length = ys.length ∧ ∀ i (h : i < xs.length) (h' : i < ys.length), xs[i].kind = ys[i].kind ∧ xs[i].on = ys[i].on
theorem Alike.refl (xs : List Nd) : Alike xs xs := ⟨rfl, fun _ _ _ => ⟨rfl, rfl⟩⟩
theorem sameField_ok (f g : Fd) (hf : f.nl ≠ .bor) (hg : g.nl ≠ .bor) (hi : f.inn = g.inn) (ha : Alike f.nodes g.nodes) (hb : f.nodes.length ≤ maxLen) (hc : ∀ n ∈ f.nodes, n.on.length ≤ 400) : R tb 30 [vFd f, vFd g] = some (.bool true) := by
  have hm : maxLen = 9223372036854775807 := rfl
  obtain ⟨hl, ha⟩ := ha
  refine R_of_G (F := pf30) rfl rfl rfl ?_
  simp (disch := omega) [pf30, env0_eq, hi, hl]
  refine G_scanC [2, 3, 22] 23 (fun _ => false) f.nodes.length 0 (by simp) (Nat.zero_le _) ?_
  rintro i e - hi hz hk hci
  simp at hk
  simp (disch := omega) [hk, hci, ← hl]
  refine G_brd (fun h => ?_) (fun h => ?_)
  · have h' : i < g.nodes.length := by omega
    obtain ⟨h1, h2⟩ := ha i h h'
    have hon := hc _ (List.getElem_mem h)
    have hs := sameInts_ok f.nodes[i].nl g.nodes[i].nl f.nodes[i].on (by omega)
    rw [h2] at hs
    simp (disch := omega) [h, h', hk, hci, h1, h2, hs]
  · simp (disch := omega) [h]
theorem sameSky_ok (s t : Sk) (hf : s.fd.nl ≠ .bor) (hp : s.nlp ≠ .bor) (hg : t.fd.nl ≠ .bor) (hq : t.nlp ≠ .bor) (hi : s.fd.inn = t.fd.inn) (ha : Alike s.fd.nodes t.fd.nodes) (he : s.pls = t.pls) (hn : s.now = t.now)
    (hb : s.fd.nodes.length ≤ maxLen) (hpb : s.pls.length ≤ maxLen) (hc : ∀ n ∈ s.fd.nodes, n.on.length ≤ 400) : R tb 22 [vSk s, vSk t] = some (.bool true) := by
  have hm : maxLen = 9223372036854775807 := rfl
  have h1 := sameField_ok s.fd t.fd hf hg hi ha hb hc
  have h2 := samePls_ok s.nlp t.nlp s.pls hpb
  simp only [vFd] at h1
  rw [he] at h2
  refine R_of_G (F := pf22) rfl rfl rfl ?_
  simp (disch := omega) [pf22, env0_eq, h1, h2, he, hn]
end Go.Proofs.Ytmbknidfkddpfaa
