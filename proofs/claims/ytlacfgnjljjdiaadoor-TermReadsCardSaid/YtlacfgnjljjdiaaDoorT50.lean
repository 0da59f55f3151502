import Derived.Test.YtlacfgnjljjdiaaDoorT46
set_option linter.unusedVariables false
set_option linter.unusedSimpArgs false
open Go Go.RowKit Go.Proofs
namespace Wh
/-! ### Pick: a place among n -/
theorem pick_calls (x : Int) (n : Nat) (w : World) (hx : -9223372036854775808 ≤ x ∧ x ≤ 9223372036854775807) (hn : 1 ≤ n) (hn2 : n ≤ 1000000000) : Calls Tryd.prog 8 #[.int .i64 x, .int .i64 n] w fun e w' => ∃ k : Nat, k < n ∧ e = .returned (.int .i64 k) ∧ w' = w := by
  have h0 : ((n : Int) < 1) = False := by simp; omega
  have hne : ((n : Int) = 0) = False := by simp; omega
  have hb := Int.tmod_lt_of_pos x (show (0 : Int) < n by omega)
  have hb2 : -(n : Int) < x.tmod n := by
    have := Int.neg_tmod x n
    have := Int.tmod_lt_of_pos (-x) (show (0 : Int) < n by omega)
    omega
  have d0 : decide ((n : Int) < 1) = false := decide_eq_false (by omega)
  by_cases hneg : x.tmod n < 0
  · have d1 : decide (x.tmod n < 0) = true := decide_eq_true hneg
    have w1 : IntKind.i64.wrap (x.tmod n + n) = x.tmod n + n := wrap_id _ (by omega) (by omega)
    have w2 : IntKind.i64.wrap (x.tmod n) = x.tmod n := wrap_id _ (by omega) (by omega)
    go_enter Tryd.func8, Tryd.ntmps8
    go_wp2_with fail
    go_ret
    exact ⟨(x.tmod n + n).toNat, by clear w1 w2; omega, congrArg (fun z => Ending.returned (Value.int .i64 z)) (Int.toNat_of_nonneg (by clear w1 w2; omega)).symm, rfl⟩
  · have d1 : decide (x.tmod n < 0) = false := decide_eq_false hneg
    have w2 : IntKind.i64.wrap (x.tmod n) = x.tmod n := wrap_id _ (by omega) (by omega)
    go_enter Tryd.func8, Tryd.ntmps8
    go_wp2_with fail
    go_ret
    exact ⟨(x.tmod n).toNat, by clear w2; omega, congrArg (fun z => Ending.returned (Value.int .i64 z)) (Int.toNat_of_nonneg (by clear w2; omega)).symm, rfl⟩
end Wh
