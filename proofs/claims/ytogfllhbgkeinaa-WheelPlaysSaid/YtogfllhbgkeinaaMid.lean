/-
  A cut between two pieces of code, with values that are not yet known.
-/
import Derived.Test.YtogfllhbgkeinaaRf
set_option linter.unusedVariables false
set_option linter.unusedSimpArgs false
namespace Go.Proofs.Ytogfllhbgkeinaa.Eng
open Go.RowKit Base
variable {P : Program} {n z : Nat} {l : Fr} {w w' : World}
theorem q_midx {β : Type} {c y : Code} {Q : Exit → Act → World → Prop} (r : β → Fr) (K : β → World → Prop) (h : wq P n z c (Exit.then (fun a' w' => ∃ x w1 k, w' = dn w1 k ∧ z ≤ k ∧ Fits n a' (r x) ∧ K x w1) Q) l w) (k : ∀ x w1, K x w1 → wq P n z y Q (r x) w1) : wq P n z c (Exit.then (y.wp P Q) Q) l w := fun a j hj ha =>
  wp_mono (h a j hj ha) fun e a' w' hq => by
    cases e with
    | normal =>
      obtain ⟨x, w1, q, rfl, hq', hf, hK⟩ := hq
      exact k x w1 hK a' q hq' hf
    | _ => exact hq
theorem x_midx {β : Type} {Q0 : Exit → Act → World → Prop} {r : β → Fr} {K : β → World → Prop} (x : β) (hc : Cov l (r x)) (hK : K x w) : wx n z (Exit.then (fun a' w' => ∃ x w1 k, w' = dn w1 k ∧ z ≤ k ∧ Fits n a' (r x) ∧ K x w1) Q0) .normal l w := fun a k hz ha => ⟨x, w, k, rfl, hz, ha.cov hc, hK⟩
end Go.Proofs.Ytogfllhbgkeinaa.Eng
