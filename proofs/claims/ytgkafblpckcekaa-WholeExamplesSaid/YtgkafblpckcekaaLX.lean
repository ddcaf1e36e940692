/- The proofs that the code computes the plain functions. Made by program. -/
import Derived.Test.YtgkafblpckcekaaL1
import Derived.Test.YtgkafblpckcekaaML1
namespace Go.Proofs.Ytgkafblpckcekaa
open Go.Fw Go.RowKit
theorem law01_WholeExamples_ok  {r : Bool} (h : law01_WholeExamples_m = some r) : Pure Try.prog 5 [] (.v (.bool r)) := by
  refine pure_of_ok Try.func5 rfl (Nat.le_of_ble_eq_true rfl) (fun wld M vs hvs => ?_)
  unfold law01_WholeExamples_m at h
  refine ok_seq ?_
  refine ok_region ?_
  refine RT.asg .none rfl (tl rfl) ?_
  refine RT.done ?_
  refine AThen.n ?_
  refine ok_seq ?_
  refine ok_region ?_
  replace h := bind_some h
  obtain ⟨x1, h1, h⟩ := h
  refine RT.call .none (law01_alive_ok h1) rfl trivial (tl rfl) ?_
  refine RT.asg .none rfl (tl rfl) ?_
  refine RT.done ?_
  refine AThen.n ?_
  refine ok_ret ?_
  obtain rfl := Option.some.inj h
  exact ⟨.inr rfl, res_imp (.tmp rfl (.nil)) (SV.imp_refl _)⟩
end Go.Proofs.Ytgkafblpckcekaa
