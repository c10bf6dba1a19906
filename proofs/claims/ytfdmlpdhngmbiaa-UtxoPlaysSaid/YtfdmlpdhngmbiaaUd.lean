/- The contracts of the law's own helpers: Coin, awake, Fill of nothing. -/
import Derived.Test.YtfdmlpdhngmbiaaUc
import Derived.Test.YtfdmlpdhngmbiaaSxU
namespace Go.Proofs.Ytfdmlpdhngmbiaa
open Go.Sx

theorem lawCoin_spec (c : Coin) (M : Mem) (d : Nat) : CallSpec Try.prog 11 [c.cv] M d { v := .cv c.cv } [] := by
  refine spec_pure Try.mixed Try.T_ok Try.func11 rfl _ _ rfl rfl (fun C _ => ?_) M d
  (refine wBegin ?_; ((conv => arg 5; whnf); repeat ((first | (with_reducible refine wT ?_) | (with_reducible refine wF ?_) | (with_reducible refine wO (by kernel_rfl) ?_)); refine wGo ?_; (conv => arg 5; whnf))))
  exact Ends.plain (.inr rfl) rfl rfl

/-- The reference's coins. -/
structure RC where
  P : List Pt
  C : List Coin
def RC.mem (R : RC) : Mem := [(0, .cells 55 [.slc 1 9 0 R.P.length, .slc 2 11 0 R.C.length]), (1, .vec 36 9 R.P.length fun i => (R.P.getD i default).cells), (2, .vec 40 11 R.C.length fun i => (R.C.getD i default).cells)]
def rcP (R : RC) : AbsP := packP R.mem True
def RC.empty : RC := ⟨[], []⟩

set_option maxRecDepth 100000 in
theorem fill_nil_spec (M : Mem) (d : Nat) : CallSpec Try.prog 8 [.one (.raw (.slice none 0 0))] M d { v := .tup [.one (.ptr d 0 0 0), .one (.inn d 0)], upd := [(d, .abs (PairP (usetP USet.empty) (rcP RC.empty)))] } [] := by
  refine spec_made Try.T_ok Try.func8 rfl (ch' := .abs (PairP (usetP USet.empty) (rcP RC.empty))) rfl rfl [.one (.raw (.slice none 0 0))] rfl 22 (.tup [.one (.ptr 22 0 0 0), .one (.inn 22 0)]) rfl (fun C hC => ?_)
  (refine Tri.cut 2 Try.mixed Try.T_ok ?_; ((conv => arg 5; whnf); repeat ((first | (with_reducible refine wT ?_) | (with_reducible refine wF ?_) | (with_reducible refine wO (by kernel_rfl) ?_)); refine wGo ?_; (conv => arg 5; whnf))))
  (refine wP _ _ (call_op rfl (entersB_of Try.func16 (by kernel_rfl)) rfl (new_spec)) ?_; ((conv => arg 5; whnf); repeat ((first | (with_reducible refine wT ?_) | (with_reducible refine wF ?_) | (with_reducible refine wO (by kernel_rfl) ?_)); refine wGo ?_; (conv => arg 5; whnf))))
  refine wD <| cutG (Tri.seq ?_)
  (refine Tri.cut 1 Try.mixed Try.T_ok ?_; ((conv => arg 5; whnf); repeat ((first | (with_reducible refine wT ?_) | (with_reducible refine wF ?_) | (with_reducible refine wO (by kernel_rfl) ?_)); refine wGo ?_; (conv => arg 5; whnf))))
  refine wD <| cutG (Tri.block (Tri.loop (α := Unit) (fun _ => _) (fun _ => 0) () (Ent.refl _) (fun _ => ?_)))
  (refine Tri.cut 1 Try.mixed Try.T_ok ?_; ((conv => arg 5; whnf); repeat ((first | (with_reducible refine wT ?_) | (with_reducible refine wF ?_) | (with_reducible refine wO (by kernel_rfl) ?_)); refine wGo ?_; (conv => arg 5; whnf))))
  refine wC (fun h => absurd h (by decide)) (fun _ => ?_)
  (refine wGo ?_; ((conv => arg 5; whnf); repeat ((first | (with_reducible refine wT ?_) | (with_reducible refine wF ?_) | (with_reducible refine wO (by kernel_rfl) ?_)); refine wGo ?_; (conv => arg 5; whnf))))
  refine wD <| cutE <| loopX <| blockX <| cutG <| Tri.of Try.mixed Try.T_ok ?_
  (refine wBegin ?_; ((conv => arg 5; whnf); repeat ((first | (with_reducible refine wT ?_) | (with_reducible refine wF ?_) | (with_reducible refine wO (by kernel_rfl) ?_)); refine wGo ?_; (conv => arg 5; whnf))))
  exact wD (Ends.made (.inr rfl) (Ent.trans (Ent.nilc (c := 4) (e := 55) (cs := [.raw (.slice none 0 0), .raw (.slice none 0 0)]) (j := 0) rfl rfl 36 9)
    (Ent.trans (Ent.nilc (c := 4) (e := 55) (cs := [.slc 20 9 0 0, .raw (.slice none 0 0)]) (j := 1) rfl rfl 40 11)
    (Ent.trans (Ent.shut3 (i0 := 4) (i1 := 20) (i2 := 21) (M := RC.empty.mem) (inv := True) rfl trivial rfl rfl rfl rfl rfl rfl rfl rfl ⟨rfl, rfl⟩ ⟨rfl, rfl, Nat.le_refl _, fun i hi => absurd hi (Nat.not_lt_zero i)⟩ ⟨rfl, rfl, Nat.le_refl _, fun i hi => absurd hi (Nat.not_lt_zero i)⟩)
    (Ent.pair (i := 2) (j := 4) (t1 := 2) (t2 := 3) (A := usetP USet.empty) (B := rcP RC.empty) rfl rfl rfl rfl rfl)))) rfl (Nat.zero_le _) rfl)

def awP : Pt := ⟨⟨1, 0, 0, 0, 0, 0, 0, 0⟩, 2⟩
def awC : Coin := ⟨⟨3, 0, 0, 0, 0, 0, 0, 0⟩, 5, 0, false⟩
def awS1 : USet := USet.empty.add awP awC
def awS2 : USet := awS1.spend awP
def awS3 : USet := awS2.back awS1.steps.length

set_option maxRecDepth 100000 in
theorem awake_spec (M : Mem) (d : Nat) : CallSpec Try.prog 7 [] M d { v := XV.bool true } [] := by
  refine spec_pure Try.mixed Try.T_ok Try.func7 rfl _ _ rfl rfl (fun C _ => ?_) M d
  (refine wBegin ?_; ((conv => arg 5; whnf); repeat ((first | (with_reducible refine wT ?_) | (with_reducible refine wF ?_) | (with_reducible refine wO (by kernel_rfl) ?_)); refine wGo ?_; (conv => arg 5; whnf))))
  (refine wP _ _ (call_op rfl (entersB_of Try.func16 (by kernel_rfl)) rfl (new_spec)) ?_; ((conv => arg 5; whnf); repeat ((first | (with_reducible refine wT ?_) | (with_reducible refine wF ?_) | (with_reducible refine wO (by kernel_rfl) ?_)); refine wGo ?_; (conv => arg 5; whnf))))
  (refine wP _ _ (call_op rfl (entersB_of Try.func10 (by kernel_rfl)) rfl (uadd_spec USet.empty awP awC (by decide) rfl rfl)) ?_; ((conv => arg 5; whnf); repeat ((first | (with_reducible refine wT ?_) | (with_reducible refine wF ?_) | (with_reducible refine wO (by kernel_rfl) ?_)); refine wGo ?_; (conv => arg 5; whnf))))
  (refine wP _ _ (call_op rfl (entersB_of Try.func9 (by kernel_rfl)) rfl (mark_spec awS1 rfl rfl)) ?_; ((conv => arg 5; whnf); repeat ((first | (with_reducible refine wT ?_) | (with_reducible refine wF ?_) | (with_reducible refine wO (by kernel_rfl) ?_)); refine wGo ?_; (conv => arg 5; whnf))))
  (refine wP _ _ (call_op rfl (entersB_of Try.func12 (by kernel_rfl)) rfl (spend_spec awS1 awP (by decide) rfl rfl)) ?_; ((conv => arg 5; whnf); repeat ((first | (with_reducible refine wT ?_) | (with_reducible refine wF ?_) | (with_reducible refine wO (by kernel_rfl) ?_)); refine wGo ?_; (conv => arg 5; whnf))))
  (refine wP _ _ (call_op rfl (entersB_of Try.func15 (by kernel_rfl)) rfl (back_spec awS2 awS1.steps.length (by decide) rfl rfl)) ?_; ((conv => arg 5; whnf); repeat ((first | (with_reducible refine wT ?_) | (with_reducible refine wF ?_) | (with_reducible refine wO (by kernel_rfl) ?_)); refine wGo ?_; (conv => arg 5; whnf))))
  refine wC (fun _ => ?_) (fun h => absurd h (by decide))
  (refine wGo ?_; ((conv => arg 5; whnf); repeat ((first | (with_reducible refine wT ?_) | (with_reducible refine wF ?_) | (with_reducible refine wO (by kernel_rfl) ?_)); refine wGo ?_; (conv => arg 5; whnf))))
  refine wC (fun _ => ?_) (fun h => absurd h (by decide))
  (refine wGo ?_; ((conv => arg 5; whnf); repeat ((first | (with_reducible refine wT ?_) | (with_reducible refine wF ?_) | (with_reducible refine wO (by kernel_rfl) ?_)); refine wGo ?_; (conv => arg 5; whnf))))
  refine wC (fun _ => ?_) (fun h => absurd h (by decide))
  (refine wGo ?_; ((conv => arg 5; whnf); repeat ((first | (with_reducible refine wT ?_) | (with_reducible refine wF ?_) | (with_reducible refine wO (by kernel_rfl) ?_)); refine wGo ?_; (conv => arg 5; whnf))))
  refine wC (fun _ => ?_) (fun h => absurd h (by decide))
  (refine wGo ?_; ((conv => arg 5; whnf); repeat ((first | (with_reducible refine wT ?_) | (with_reducible refine wF ?_) | (with_reducible refine wO (by kernel_rfl) ?_)); refine wGo ?_; (conv => arg 5; whnf))))
  (refine wP _ _ (call_op rfl (entersB_of Try.func13 (by kernel_rfl)) rfl (total_spec awS3 rfl rfl)) ?_; ((conv => arg 5; whnf); repeat ((first | (with_reducible refine wT ?_) | (with_reducible refine wF ?_) | (with_reducible refine wO (by kernel_rfl) ?_)); refine wGo ?_; (conv => arg 5; whnf))))
  refine wC (fun _ => ?_) (fun h => absurd h (by decide))
  (refine wGo ?_; ((conv => arg 5; whnf); repeat ((first | (with_reducible refine wT ?_) | (with_reducible refine wF ?_) | (with_reducible refine wO (by kernel_rfl) ?_)); refine wGo ?_; (conv => arg 5; whnf))))
  (refine wP _ _ (call_op rfl (entersB_of Try.func14 (by kernel_rfl)) rfl (len_spec awS3 rfl rfl)) ?_; ((conv => arg 5; whnf); repeat ((first | (with_reducible refine wT ?_) | (with_reducible refine wF ?_) | (with_reducible refine wO (by kernel_rfl) ?_)); refine wGo ?_; (conv => arg 5; whnf))))
  exact Ends.plain (.inr rfl) rfl (congrArg XV.bool (by decide))
end Go.Proofs.Ytfdmlpdhngmbiaa
