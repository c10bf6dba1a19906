/- The law's Fill: both ledgers, by the same deeds. -/
import Derived.Test.YtfdmlpdhngmbiaaUe
import Derived.Test.YtfdmlpdhngmbiaaUm
import Derived.Test.YtfdmlpdhngmbiaaSxZ
namespace Go.Proofs.Ytfdmlpdhngmbiaa
open Go.Sx

/-- Both behind the first i deeds. -/
def fillU (l : List Deed) : Nat → USet
  | 0 => USet.empty
  | i + 1 => (fillU l i).add (l.getD i default).p (l.getD i default).c
def fillR (l : List Deed) : Nat → RC
  | 0 => RC.empty
  | i + 1 => (fillR l i).add (l.getD i default).p (l.getD i default).c

theorem USet.add_len (S : USet) (p : Pt) (c : Coin) : (S.add p c).steps.length ≤ S.steps.length + 1 := by
  unfold USet.add
  split
  · simp [USet.add1]
  · omega
theorem fillU_len (l : List Deed) (i : Nat) : (fillU l i).steps.length ≤ i := by
  induction i with
  | zero => exact Nat.le_refl _
  | succ i ih =>
    have := (fillU l i).add_len (l.getD i default).p (l.getD i default).c
    simp only [fillU]; omega
theorem RC.pos_le (R : RC) (p : Pt) : R.pos p ≤ R.P.length := posIn_le p R.P
theorem RC.add_len (R : RC) (p : Pt) (c : Coin) (h : R.P.length = R.C.length) : (R.add p c).P.length = (R.add p c).C.length ∧ (R.add p c).P.length ≤ R.P.length + 1 := by
  unfold RC.add
  split
  · simp only [RC.add1, List.length_append, List.length_cons, List.length_take, List.length_drop]
    have := R.pos_le p
    omega
  · exact ⟨h, by omega⟩
theorem fillR_len (l : List Deed) (i : Nat) : (fillR l i).P.length = (fillR l i).C.length ∧ (fillR l i).P.length ≤ i := by
  induction i with
  | zero => exact ⟨rfl, Nat.le_refl _⟩
  | succ i ih =>
    have := (fillR l i).add_len (l.getD i default).p (l.getD i default).c ih.1
    simp only [fillR]; omega

/-- At the loop's head. -/
def fillSt (l : List Deed) (i : Nat) : St :=
  ⟨[some (XV.sv (.slc 0 22 0 l.length)), none, some (XV.val (.pointer none)), some (XV.val (.pointer none)), some (XV.sv (.ptr 1 0 0 0)), some (XV.sv (.ptr 2 0 0 0)), some (XV.int .i64 i)] ++ List.replicate 40 none,
   [(0, .ro 22 l.length (deedsF l)), (1, .abs (usetP (fillU l i))), (2, .abs (rcP (fillR l i)))], 3⟩

set_option maxHeartbeats 4000000 in
set_option maxRecDepth 100000 in
theorem fill_spec (l : List Deed) (hl : l.length ≤ 1000) {M : Mem} {d : Nat} (hM : M.get 0 = some (.ro 22 l.length (deedsF l))) (hd : 1 ≤ d) : CallSpec Try.prog 8 [.one (.slc 0 22 0 l.length)] M d { v := .tup [.one (.ptr d 0 0 0), .one (.inn d 0)], upd := [(d, .abs (PairP (usetP (fillU l l.length)) (rcP (fillR l l.length))))] } (List.range 1) := by
  have hget : ∀ i ch, Mem.get [(0, .ro 22 l.length (deedsF l))] i = some ch → i = 0 ∧ ch = .ro 22 l.length (deedsF l) := by
    intro i ch hi
    simp only [Mem.get, nbeq] at hi
    by_cases h0 : 0 = i
    · subst h0; simp at hi; exact ⟨rfl, hi.symm⟩
    · simp [h0] at hi
  refine spec_made_reads Try.T_ok Try.func8 rfl (ch' := .abs (PairP (usetP (fillU l l.length)) (rcP (fillR l l.length)))) rfl rfl [.one (.slc 0 22 0 l.length)] [(0, .ro 22 l.length (deedsF l))] 1 rfl ?_ ?_ hd 15 (.tup [.one (.ptr 15 0 0 0), .one (.inn 15 0)]) rfl (fun C hC => ?_)
  · intro i ch hi
    obtain ⟨rfl, rfl⟩ := hget i ch hi
    exact ⟨by omega, rfl⟩
  · intro i ch hi
    obtain ⟨rfl, rfl⟩ := hget i ch hi
    exact hM
  (refine Tri.cut 2 Try.mixed Try.T_ok ?_; ((conv => arg 5; whnf); repeat ((first | (with_reducible refine wT ?_) | (with_reducible refine wF ?_) | (with_reducible refine wO (by kernel_rfl) ?_)); refine wGo ?_; (conv => arg 5; whnf))))
  (refine wP _ _ (call_op rfl (entersB_of Try.func16 (by kernel_rfl)) rfl (new_spec)) ?_; ((conv => arg 5; whnf); repeat ((first | (with_reducible refine wT ?_) | (with_reducible refine wF ?_) | (with_reducible refine wO (by kernel_rfl) ?_)); refine wGo ?_; (conv => arg 5; whnf))))
  refine wD <| cutG (Tri.seq ?_)
  (refine Tri.cut 1 Try.mixed Try.T_ok ?_; ((conv => arg 5; whnf); repeat ((first | (with_reducible refine wT ?_) | (with_reducible refine wF ?_) | (with_reducible refine wO (by kernel_rfl) ?_)); refine wGo ?_; (conv => arg 5; whnf))))
  have hC0 : ∀ ids : List Nat, ids[0]? = some 0 → ∀ i, i < C.n0 → ids[i]? = some i := fun ids e0 i hi => by
    rw [hC] at hi
    match i, hi with
    | 0, _ => exact e0
  refine wD <| cutG (Tri.block ?_)
  refine Tri.ent (Ent.trans (Ent.nilc (c := 5) (e := 55) (cs := [.raw (.slice none 0 0), .raw (.slice none 0 0)]) (j := 0) rfl rfl 36 9)
    (Ent.trans (Ent.nilc (c := 5) (e := 55) (cs := [.slc 9 9 0 0, .raw (.slice none 0 0)]) (j := 1) rfl rfl 40 11)
    (Ent.shut3 (i0 := 5) (i1 := 9) (i2 := 10) (M := RC.empty.mem) (inv := True) rfl trivial rfl rfl rfl rfl rfl rfl rfl rfl ⟨rfl, rfl⟩ ⟨rfl, rfl, Nat.le_refl _, fun i hi => absurd hi (Nat.not_lt_zero i)⟩ ⟨rfl, rfl, Nat.le_refl _, fun i hi => absurd hi (Nat.not_lt_zero i)⟩))) ?_
  refine Tri.loop (α := { i : Nat // i ≤ l.length }) (fun i => fillSt l i.1) (fun i => l.length - i.1) ⟨0, Nat.zero_le _⟩ ?_ ?_
  · exact Ent.ren [0, 3, 5] (by decide) rfl (hC0 _ rfl) (by rw [hC]; decide) rfl ⟨rfl, rfl, rfl, rfl, rfl, rfl, trivial⟩ ⟨⟨_, rfl, rfl, rfl, fun _ _ => rfl⟩, ⟨_, rfl, rfl⟩, ⟨_, rfl, rfl⟩, trivial⟩
  rintro ⟨i, hi⟩
  dsimp only
  have hU : (fillU l i).steps.length < 1000000 := by have := fillU_len l i; omega
  have hR := fillR_len l i
  (refine Tri.cut 1 Try.mixed Try.T_ok ?_; ((conv => arg 5; whnf); repeat ((first | (with_reducible refine wT ?_) | (with_reducible refine wF ?_) | (with_reducible refine wO (by kernel_rfl) ?_)); refine wGo ?_; (conv => arg 5; whnf))))
  refine wC (fun h3 => ?_) (fun h3 => ?_)
  case refine_2 =>
    (refine wGo ?_; ((conv => arg 5; whnf); repeat ((first | (with_reducible refine wT ?_) | (with_reducible refine wF ?_) | (with_reducible refine wO (by kernel_rfl) ?_)); refine wGo ?_; (conv => arg 5; whnf))))
    have hil : i = l.length := by simp only [decide_eq_false_iff_not] at h3; omega
    subst hil
    refine wD <| cutE <| loopX <| blockX <| cutG <| Tri.of Try.mixed Try.T_ok ?_
    (refine wBegin ?_; ((conv => arg 5; whnf); repeat ((first | (with_reducible refine wT ?_) | (with_reducible refine wF ?_) | (with_reducible refine wO (by kernel_rfl) ?_)); refine wGo ?_; (conv => arg 5; whnf))))
    exact wD (Ends.made (i := 15) (.inr rfl) (Ent.pair (i := 1) (j := 2) (t1 := 2) (t2 := 3) (A := usetP (fillU l l.length)) (B := rcP (fillR l l.length)) rfl rfl rfl rfl rfl) rfl (by decide) rfl)
  (refine wGo ?_; ((conv => arg 5; whnf); repeat ((first | (with_reducible refine wT ?_) | (with_reducible refine wF ?_) | (with_reducible refine wO (by kernel_rfl) ?_)); refine wGo ?_; (conv => arg 5; whnf))))
  have h3' : i < l.length := by simp only [decide_eq_true_eq] at h3; omega
  have hwi : IntKind.i64.wrap ((i : Int) + 1) = ((i + 1 : Nat) : Int) := by rw [wrap_i64 (by omega) (by omega)]; omega
  have hgi : l.getD (0 + ((i : Nat) : Int).toNat) default = l.getD i default := by simp
  refine wC (fun _ => ?_) (fun h => absurd h (by decide))
  (refine wGo ?_; ((conv => arg 5; whnf); repeat ((first | (with_reducible refine wT ?_) | (with_reducible refine wF ?_) | (with_reducible refine wO (by kernel_rfl) ?_)); refine wGo ?_; (conv => arg 5; whnf))))
  refine wD <| cutG <| Tri.seq <| Tri.block ?_
  refine Tri.of Try.mixed Try.T_ok ?_
  (refine wBegin ?_; ((conv => arg 5; whnf); repeat ((first | (with_reducible refine wT ?_) | (with_reducible refine wF ?_) | (with_reducible refine wO (by kernel_rfl) ?_)); refine wGo ?_; (conv => arg 5; whnf))))
  refine wN ⟨by omega, by omega⟩ ?_
  (refine wGo ?_; ((conv => arg 5; whnf); repeat ((first | (with_reducible refine wT ?_) | (with_reducible refine wF ?_) | (with_reducible refine wO (by kernel_rfl) ?_)); refine wGo ?_; (conv => arg 5; whnf))))
  refine wN (by omega) ?_
  (refine wGo ?_; ((conv => arg 5; whnf); repeat ((first | (with_reducible refine wT ?_) | (with_reducible refine wF ?_) | (with_reducible refine wO (by kernel_rfl) ?_)); refine wGo ?_; (conv => arg 5; whnf))))
  refine wN ⟨by omega, by omega⟩ ?_
  (refine wGo ?_; ((conv => arg 5; whnf); repeat ((first | (with_reducible refine wT ?_) | (with_reducible refine wF ?_) | (with_reducible refine wO (by kernel_rfl) ?_)); refine wGo ?_; (conv => arg 5; whnf))))
  refine wN (by omega) ?_
  (refine wGo ?_; ((conv => arg 5; whnf); repeat ((first | (with_reducible refine wT ?_) | (with_reducible refine wF ?_) | (with_reducible refine wO (by kernel_rfl) ?_)); refine wGo ?_; (conv => arg 5; whnf))))
  (refine wP _ _ (call_op rfl (entersB_of Try.func11 (by kernel_rfl)) rfl (lawCoin_spec (l.getD (0 + ((i : Nat) : Int).toNat) default).c _ _)) ?_; ((conv => arg 5; whnf); repeat ((first | (with_reducible refine wT ?_) | (with_reducible refine wF ?_) | (with_reducible refine wO (by kernel_rfl) ?_)); refine wGo ?_; (conv => arg 5; whnf))))
  (refine wP _ _ (call_op rfl (entersB_of Try.func10 (by kernel_rfl)) rfl (uadd_spec (fillU l i) (l.getD (0 + ((i : Nat) : Int).toNat) default).p (l.getD (0 + ((i : Nat) : Int).toNat) default).c hU rfl rfl)) ?_; ((conv => arg 5; whnf); repeat ((first | (with_reducible refine wT ?_) | (with_reducible refine wF ?_) | (with_reducible refine wO (by kernel_rfl) ?_)); refine wGo ?_; (conv => arg 5; whnf))))
  refine wN ⟨by omega, by omega⟩ ?_
  (refine wGo ?_; ((conv => arg 5; whnf); repeat ((first | (with_reducible refine wT ?_) | (with_reducible refine wF ?_) | (with_reducible refine wO (by kernel_rfl) ?_)); refine wGo ?_; (conv => arg 5; whnf))))
  refine wN (by omega) ?_
  (refine wGo ?_; ((conv => arg 5; whnf); repeat ((first | (with_reducible refine wT ?_) | (with_reducible refine wF ?_) | (with_reducible refine wO (by kernel_rfl) ?_)); refine wGo ?_; (conv => arg 5; whnf))))
  refine wN ⟨by omega, by omega⟩ ?_
  (refine wGo ?_; ((conv => arg 5; whnf); repeat ((first | (with_reducible refine wT ?_) | (with_reducible refine wF ?_) | (with_reducible refine wO (by kernel_rfl) ?_)); refine wGo ?_; (conv => arg 5; whnf))))
  refine wN (by omega) ?_
  (refine wGo ?_; ((conv => arg 5; whnf); repeat ((first | (with_reducible refine wT ?_) | (with_reducible refine wF ?_) | (with_reducible refine wO (by kernel_rfl) ?_)); refine wGo ?_; (conv => arg 5; whnf))))
  (refine wP _ _ (call_op rfl (entersB_of Try.func18 (by kernel_rfl)) rfl (rcAdd_spec (fillR l i) (l.getD (0 + ((i : Nat) : Int).toNat) default).p (l.getD (0 + ((i : Nat) : Int).toNat) default).c hR.1 (by omega) rfl rfl)) ?_; ((conv => arg 5; whnf); repeat ((first | (with_reducible refine wT ?_) | (with_reducible refine wF ?_) | (with_reducible refine wO (by kernel_rfl) ?_)); refine wGo ?_; (conv => arg 5; whnf))))
  refine wD <| blockN <| Tri.of Try.mixed Try.T_ok ?_
  (refine wBegin ?_; ((conv => arg 5; whnf); repeat ((first | (with_reducible refine wT ?_) | (with_reducible refine wF ?_) | (with_reducible refine wO (by kernel_rfl) ?_)); refine wGo ?_; (conv => arg 5; whnf))))
  have e1 : fillU l (i + 1) = (fillU l i).add (l.getD (0 + ((i : Nat) : Int).toNat) default).p (l.getD (0 + ((i : Nat) : Int).toNat) default).c := by rw [hgi]; rfl
  have e2 : fillR l (i + 1) = (fillR l i).add (l.getD (0 + ((i : Nat) : Int).toNat) default).p (l.getD (0 + ((i : Nat) : Int).toNat) default).c := by rw [hgi]; rfl
  refine wD <| loopN ⟨⟨i + 1, h3'⟩, by simp only; omega, ?_⟩
  exact Ent.ren [0, 1, 2] (by decide) rfl (hC0 _ rfl) (by rw [hC]; decide) rfl ⟨rfl, rfl, rfl, rfl, rfl, congrArg (fun n : Int => some (XV.int .i64 n)) hwi, trivial⟩ ⟨⟨_, rfl, rfl, rfl, fun _ _ => rfl⟩, ⟨_, rfl, congrArg usetP e1.symm⟩, ⟨_, rfl, congrArg rcP e2.symm⟩, trivial⟩
end Go.Proofs.Ytfdmlpdhngmbiaa
