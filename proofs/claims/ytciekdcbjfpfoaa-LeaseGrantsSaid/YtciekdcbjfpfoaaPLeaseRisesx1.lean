-- PRINTED BY print.sh 35421559b90ae4d0a3588c463048766b98c2df88dd9212a6774a882060cdf62d: not written by this session
import Derived.Test.YtciekdcbjfpfoaaPLeaseRisesx0
namespace Go.Proofs.Ytciekdcbjfpfoaa.PLeaseRises
open Go.RowKit Go.Proofs.YtciekdcbjfpfoaaW.PrintWords Go.Proofs.YtciekdcbjfpfoaaW.PrintLast Go.Proofs.YtciekdcbjfpfoaaW.PrintMore
attribute [local go_sem] max2_int min2_int max_two min_two max_three min_three max_four min_four   -- for this text's walks alone
set_option linter.unusedVariables false
set_option linter.unusedSimpArgs false

theorem eqA24 (d : Nat) (w : World) (x0 y0 : Int) :
    (Op.equalIn (d + 2) 24 (.agg #[.int .u64 x0]) (.agg #[.int .u64 y0])).run Try.prog w = .ok (x0 == y0) w := by
  refine eqA_of Try.underlying24 (by kernel_rfl) ?_
  exact eqf_last (by rfl) (by go_simp; rfl) (by go_simp; rfl) (by go_simp)
end Go.Proofs.Ytciekdcbjfpfoaa.PLeaseRises
