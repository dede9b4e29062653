/- The statements' own helpers, first part: marks, lists that are the same, lists that are lent. -/
import Derived.Test.YtmhmhpdpiikjiaaGreatLib
import Derived.Test.YtmhmhpdpiikjiaaGreatProg
namespace Go.Proofs.YtmhmhpdpiikjiaaGreat
open Go.RowKit

def mk (k i : Int) : Int := (wrap64 (wrap64 (1000003 * wrap64 (k + 7)) + i))
def mkB (k i : Int) : Int := IntKind.u64.wrap (IntKind.u64.wrap (mk k i) * 11400714819323198485) / 72057594037927936 % 256

theorem mark_any (k i : Int) (w : World) :
    Calls Tryz.prog 41 #[.int .i64 k, .int .i64 i] w fun e w' => e = .returned (.int .i64 (mk k i)) ∧ w = w' := by
  show Calls Tryz.prog 41 #[.int .i64 k, .int .i64 i] w fun e w' => e = .returned (.int .i64 (wrap64 (wrap64 (1000003 * wrap64 (k + 7)) + i))) ∧ w = w'
  go_enter Tryz.func41, Tryz.ntmps41
  go_wp2
  go_ret
  exact ⟨rfl, rfl⟩

theorem mark_s (k i : Int) (w : World) :
    Calls Tryz.prog 41 #[.int .i64 k, .int .i64 i] w fun e w' => e = .returned (.int .i64 (mk k i)) ∧ w' = w :=
  (mark_any k i w).mono fun _ _ ⟨h, hw⟩ => ⟨h, hw.symm⟩
theorem mark_q (k i : Int) (w : World) :
    Calls Tryz.prog 41 #[.int .i64 k, .int .i64 i] w fun e w' => e = .returned (.int .i64 (mk k i)) ∧ Quiet w w' :=
  (mark_any k i w).mono fun _ _ ⟨h, hw⟩ => ⟨h, hw ▸ Quiet.refl w⟩

theorem markByte_any (k i : Int) (w : World) :
    Calls Tryz.prog 30 #[.int .i64 k, .int .i64 i] w fun e w' => e = .returned (.int .u8 (mkB k i)) ∧ w = w' := by
  go_enter Tryz.func30, Tryz.ntmps30
  go_wp2_with (go_at_call 41; refine (mark_any _ _ _).mono ?_; rintro e w' ⟨rfl, rfl⟩)
  go_ret
  exact ⟨rfl, rfl⟩

end Go.Proofs.YtmhmhpdpiikjiaaGreat
