/- Blocks: the table is right. -/
import Derived.Test.YtfocelelbcepnaaBlockNatA
import Derived.Test.YtfocelelbcepnaaBlockNatA
set_option maxRecDepth 20000
namespace Go.Proofs.Ytfocelelbcepnaa
open Go.Proofs.Ytfocelelbcepnaa.PM
theorem natO_ok : ∀ f args H r H', natO f args H = some (r, H') → OpenOk Try.prog f args H r H' := by
  intro f args H r H' h
  unfold natO at h
  split at h
  · rename_i e; subst e; exact natD_ok args H r H' h
  split at h
  · rename_i e; subst e; exact natI_ok args H r H' h
  split at h
  · rename_i e; subst e; exact natC_ok args H r H' h
  · cases h
theorem tb_ok : TOk Try.prog tb := ⟨tb_fns, natP_ok, natO_ok, fun _ _ _ h => (by cases h), fun _ _ _ h => (by cases h), (by kernel_rfl)⟩
end Go.Proofs.Ytfocelelbcepnaa
