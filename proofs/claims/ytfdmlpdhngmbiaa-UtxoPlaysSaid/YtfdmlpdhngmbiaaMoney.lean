/- The contracts of package money's functions. -/
import Derived.Test.YtfdmlpdhngmbiaaSxN
import Derived.Test.YtfdmlpdhngmbiaaTab
namespace Go.Proofs.Ytfdmlpdhngmbiaa
open Go.Sx

def mayB (n : Int) : Bool := decide (0 ≤ n) && decide (n ≤ 1125899906842624)

theorem may_spec (n : Int) (M : Mem) (d : Nat) : CallSpec Try.prog 43 [.one (.raw (.int .i64 n))] M d { v := XV.bool (mayB n) } [] := by
  refine spec_pure Try.mixed Try.T_ok Try.func43 rfl _ _ rfl rfl (fun C _ => ?_) M d
  (refine wBegin ?_; ((conv => arg 5; whnf); repeat ((first | (with_reducible refine wT ?_) | (with_reducible refine wF ?_) | (with_reducible refine wO (by kernel_rfl) ?_)); refine wGo ?_; (conv => arg 5; whnf))))
  refine wC (fun h1 => ?_) (fun h1 => ?_)
  all_goals
    (refine wGo ?_; ((conv => arg 5; whnf); repeat ((first | (with_reducible refine wT ?_) | (with_reducible refine wF ?_) | (with_reducible refine wO (by kernel_rfl) ?_)); refine wGo ?_; (conv => arg 5; whnf))))
    refine Ends.plain (.inr rfl) rfl ?_
    simp [mayB, h1]

def bothB (a b n : Int) : Bool := mayB a && mayB b && mayB n
/-- Both may be, and what comes of them: that; else nothing. -/
def bothV (a b n : Int) : List CV := [.one (.raw (.int .i64 (if bothB a b n = true then n else 0))), .one (.raw (.bool (bothB a b n)))]

theorem both_spec (a b n : Int) (M : Mem) (d : Nat) : CallSpec Try.prog 36 [.one (.raw (.int .i64 a)), .one (.raw (.int .i64 b)), .one (.raw (.int .i64 n))] M d { v := .tup (bothV a b n) } [] := by
  refine spec_pure Try.mixed Try.T_ok Try.func36 rfl _ _ rfl rfl (fun C _ => ?_) M d
  (refine wBegin ?_; ((conv => arg 5; whnf); repeat ((first | (with_reducible refine wT ?_) | (with_reducible refine wF ?_) | (with_reducible refine wO (by kernel_rfl) ?_)); refine wGo ?_; (conv => arg 5; whnf))))
  (refine wP _ _ (call_op rfl (entersB_of Try.func43 (by kernel_rfl)) rfl (may_spec _ _ _)) ?_; ((conv => arg 5; whnf); repeat ((first | (with_reducible refine wT ?_) | (with_reducible refine wF ?_) | (with_reducible refine wO (by kernel_rfl) ?_)); refine wGo ?_; (conv => arg 5; whnf))))
  refine wC (fun h1 => ?_) (fun h1 => ?_)
  · (refine wGo ?_; ((conv => arg 5; whnf); repeat ((first | (with_reducible refine wT ?_) | (with_reducible refine wF ?_) | (with_reducible refine wO (by kernel_rfl) ?_)); refine wGo ?_; (conv => arg 5; whnf))))
    refine Ends.plain (.inr rfl) rfl ?_
    simp only [Bool.not_eq_true'] at h1
    simp [bothV, bothB, h1]
  · (refine wGo ?_; ((conv => arg 5; whnf); repeat ((first | (with_reducible refine wT ?_) | (with_reducible refine wF ?_) | (with_reducible refine wO (by kernel_rfl) ?_)); refine wGo ?_; (conv => arg 5; whnf))))
    (refine wP _ _ (call_op rfl (entersB_of Try.func43 (by kernel_rfl)) rfl (may_spec _ _ _)) ?_; ((conv => arg 5; whnf); repeat ((first | (with_reducible refine wT ?_) | (with_reducible refine wF ?_) | (with_reducible refine wO (by kernel_rfl) ?_)); refine wGo ?_; (conv => arg 5; whnf))))
    simp only [Bool.not_eq_false'] at h1
    refine wC (fun h2 => ?_) (fun h2 => ?_)
    · (refine wGo ?_; ((conv => arg 5; whnf); repeat ((first | (with_reducible refine wT ?_) | (with_reducible refine wF ?_) | (with_reducible refine wO (by kernel_rfl) ?_)); refine wGo ?_; (conv => arg 5; whnf))))
      refine Ends.plain (.inr rfl) rfl ?_
      simp only [Bool.not_eq_true'] at h2
      simp [bothV, bothB, h2]
    · simp only [Bool.not_eq_false'] at h2
      (refine wGo ?_; ((conv => arg 5; whnf); repeat ((first | (with_reducible refine wT ?_) | (with_reducible refine wF ?_) | (with_reducible refine wO (by kernel_rfl) ?_)); refine wGo ?_; (conv => arg 5; whnf))))
      (refine wP _ _ (call_op rfl (entersB_of Try.func43 (by kernel_rfl)) rfl (may_spec _ _ _)) ?_; ((conv => arg 5; whnf); repeat ((first | (with_reducible refine wT ?_) | (with_reducible refine wF ?_) | (with_reducible refine wO (by kernel_rfl) ?_)); refine wGo ?_; (conv => arg 5; whnf))))
      refine wC (fun h3 => ?_) (fun h3 => ?_)
      · (refine wGo ?_; ((conv => arg 5; whnf); repeat ((first | (with_reducible refine wT ?_) | (with_reducible refine wF ?_) | (with_reducible refine wO (by kernel_rfl) ?_)); refine wGo ?_; (conv => arg 5; whnf))))
        refine Ends.plain (.inr rfl) rfl ?_
        simp only [Bool.not_eq_true'] at h3
        simp [bothV, bothB, h3]
      · simp only [Bool.not_eq_false'] at h3
        (refine wGo ?_; ((conv => arg 5; whnf); repeat ((first | (with_reducible refine wT ?_) | (with_reducible refine wF ?_) | (with_reducible refine wO (by kernel_rfl) ?_)); refine wGo ?_; (conv => arg 5; whnf))))
        refine Ends.plain (.inr rfl) rfl ?_
        simp [bothV, bothB, h1, h2, h3]

theorem add_spec (a b : Int) (M : Mem) (d : Nat) : CallSpec Try.prog 25 [.one (.raw (.int .i64 a)), .one (.raw (.int .i64 b))] M d { v := .tup (bothV a b (IntKind.i64.wrap (a + b))) } [] := by
  refine spec_pure Try.mixed Try.T_ok Try.func25 rfl _ _ rfl rfl (fun C _ => ?_) M d
  (refine wBegin ?_; ((conv => arg 5; whnf); repeat ((first | (with_reducible refine wT ?_) | (with_reducible refine wF ?_) | (with_reducible refine wO (by kernel_rfl) ?_)); refine wGo ?_; (conv => arg 5; whnf))))
  (refine wP _ _ (call_op rfl (entersB_of Try.func36 (by kernel_rfl)) rfl (both_spec _ _ _ _ _)) ?_; ((conv => arg 5; whnf); repeat ((first | (with_reducible refine wT ?_) | (with_reducible refine wF ?_) | (with_reducible refine wO (by kernel_rfl) ?_)); refine wGo ?_; (conv => arg 5; whnf))))
  exact Ends.plain (.inr rfl) rfl rfl
end Go.Proofs.Ytfdmlpdhngmbiaa
