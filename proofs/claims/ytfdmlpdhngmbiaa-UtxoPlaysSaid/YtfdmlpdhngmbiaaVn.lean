/- The walk of UtxoBack. -/
import Derived.Test.YtfdmlpdhngmbiaaVm
namespace Go.Proofs.Ytfdmlpdhngmbiaa
open Go.Sx

theorem histAdd_last {S : USet} {hist : List RC} (h : Hist S hist) (p : Pt) (c : Coin) : (histAdd S hist p c).getD (S.add p c).steps.length RC.empty = (hist.getD S.steps.length RC.empty).add p c := by
  obtain ⟨zs, hz⟩ := h.now
  unfold histAdd USet.add RC.add
  rw [hz.okB]
  split
  · have hl : (S.add1 p c).steps.length = hist.length := by rw [h.len]; simp [USet.add1]
    rw [hl, getD_snoc_eq]
  · rfl
theorem histSpend_last {S : USet} {hist : List RC} (h : Hist S hist) (p : Pt) : (histSpend S hist p).getD (S.spend p).steps.length RC.empty = (hist.getD S.steps.length RC.empty).spend p := by
  obtain ⟨zs, hz⟩ := h.now
  unfold histSpend USet.spend RC.spend
  rw [hz.isAt]
  split
  · have hl : (S.spend1 p).steps.length = hist.length := by rw [h.len]; simp [USet.spend1]
    rw [hl, getD_snoc_eq]
  · rfl
theorem histAdd_old {S : USet} {hist : List RC} (p : Pt) (c : Coin) {k : Nat} (hk : k < hist.length) : (histAdd S hist p c).getD k RC.empty = hist.getD k RC.empty := by
  unfold histAdd
  split
  · exact getD_snoc_lt _ _ hk
  · rfl
theorem histSpend_old {S : USet} {hist : List RC} (p : Pt) {k : Nat} (hk : k < hist.length) : (histSpend S hist p).getD k RC.empty = hist.getD k RC.empty := by
  unfold histSpend
  split
  · exact getD_snoc_lt _ _ hk
  · rfl

theorem fill_hist (l : List Deed) : ∀ i, ∃ hist, Hist (fillU l i) hist ∧ hist.getD (fillU l i).steps.length RC.empty = fillR l i
  | 0 => ⟨[RC.empty], Hist.empty, rfl⟩
  | i + 1 => by
    obtain ⟨hist, h1, h2⟩ := fill_hist l i
    refine ⟨_, h1.add (l.getD i default).p (l.getD i default).c, ?_⟩
    show (histAdd (fillU l i) hist _ _).getD ((fillU l i).add _ _).steps.length RC.empty = (fillR l i).add _ _
    rw [histAdd_last h1, h2]
theorem fill_twin (l : List Deed) (i : Nat) : Twin (fillU l i) (fillR l i) := by
  obtain ⟨hist, h1, h2⟩ := fill_hist l i
  rw [← h2]; exact h1.now

def stepB (S : USet) (x : Deed) : USet := if evenB x = true then S.spend x.p else S.add x.p x.c
def runB (S : USet) (l : List Deed) : Nat → USet
  | 0 => S
  | i + 1 => stepB (runB S l i) (l.getD i default)
theorem stepB_len (S : USet) (x : Deed) : S.steps.length ≤ (stepB S x).steps.length ∧ (stepB S x).steps.length ≤ S.steps.length + 1 := by
  unfold stepB USet.add USet.spend
  split
  · split
    · simp [USet.spend1]
    · exact ⟨Nat.le_refl _, Nat.le_succ _⟩
  · split
    · simp [USet.add1]
    · exact ⟨Nat.le_refl _, Nat.le_succ _⟩
theorem runB_len (S : USet) (l : List Deed) (i : Nat) : S.steps.length ≤ (runB S l i).steps.length ∧ (runB S l i).steps.length ≤ S.steps.length + i := by
  induction i with
  | zero => exact ⟨Nat.le_refl _, Nat.le_refl _⟩
  | succ i ih =>
    have := stepB_len (runB S l i) (l.getD i default)
    simp only [runB]; omega
theorem run_hist {S : USet} {R : RC} {hist : List RC} (h : Hist S hist) (hR : hist.getD S.steps.length RC.empty = R) (l : List Deed) : ∀ i, ∃ hist', Hist (runB S l i) hist' ∧ hist'.getD S.steps.length RC.empty = R
  | 0 => ⟨hist, h, hR⟩
  | i + 1 => by
    obtain ⟨hist', h1, h2⟩ := run_hist h hR l i
    have hl := h1.len
    have hS := (runB_len S l i).1
    simp only [runB, stepB]
    split
    · exact ⟨_, h1.spend _, by rw [histSpend_old _ (by omega), h2]⟩
    · exact ⟨_, h1.add _ _, by rw [histAdd_old _ _ (by omega), h2]⟩
theorem back_twin {S : USet} {R : RC} {hist : List RC} (h : Hist S hist) {n : Nat} (hn : n ≤ S.steps.length) (hR : hist.getD n RC.empty = R) : Twin (S.back n) R := by
  have h1 := (h.back hn).now
  rw [S.back_len hn] at h1
  have e : (hist.take (n + 1)).getD n RC.empty = hist.getD n RC.empty := by
    simp only [List.getD_eq_getElem?_getD]
    rw [List.getElem?_take_of_lt (by omega)]
  rw [e, hR] at h1
  exact h1
theorem Twin.coins_len {S : USet} {R : RC} (h : Twin S R) : S.coins.length = R.P.length := by
  obtain ⟨zs, hz⟩ := h
  rw [hz.len.1, hz.perm.length_eq]

def backM (l more : List Deed) : Mem := [(0, .ro 22 l.length (deedsF l)), (1, .ro 22 more.length (deedsF more))]
def ubackSt (l more : List Deed) (S : USet) (R : RC) (T : USet) (i : Nat) : St :=
  ⟨[some (XV.sv (.slc 0 22 0 l.length)), some (XV.sv (.slc 1 22 0 more.length)), none, none, some (XV.bool false), some (XV.sv (.ptr 2 0 0 0)), some (XV.sv (.ptr 3 0 0 0)), some (XV.sv (.ptr 4 0 0 0)), some (XV.sv (.ptr 5 0 0 0)), some (XV.int .i64 i)] ++ List.replicate 71 none,
   [(0, .ro 22 l.length (deedsF l)), (1, .ro 22 more.length (deedsF more)), (2, .abs (usetP T)), (3, .abs (rcP R)), (4, .cells 30 [.raw (.int .i64 (S.steps.length : Nat))]), (5, .abs (usetP S))], 6⟩

set_option maxHeartbeats 4000000 in
set_option maxRecDepth 100000 in
theorem uback_spec (l more : List Deed) {M : Mem} {d : Nat} (hM : ∀ i ch, (backM l more).get i = some ch → M.get i = some ch) (hd : 2 ≤ d) : CallSpec Try.prog 6 [.one (.slc 0 22 0 l.length), .one (.slc 1 22 0 more.length)] M d { v := XV.bool true } (List.range 2) := by
  refine spec_reads Try.T_ok Try.func6 rfl [.one (.slc 0 22 0 l.length), .one (.slc 1 22 0 more.length)] (XV.bool true) (backM l more) 2 rfl rfl ?_ (fun C hC => ?_) hM hd
  · intro i ch hi
    simp only [backM, Mem.get, nbeq] at hi
    by_cases h0 : 0 = i
    · subst h0; simp at hi; subst hi; exact ⟨by omega, rfl⟩
    · by_cases h1 : 1 = i
      · subst h1; simp at hi; subst hi; exact ⟨by omega, rfl⟩
      · simp [h0, h1] at hi
  (refine Tri.cut 4 Try.mixed Try.T_ok ?_; ((conv => arg 5; whnf); repeat ((first | (with_reducible refine wT ?_) | (with_reducible refine wF ?_) | (with_reducible refine wO (by kernel_rfl) ?_)); refine wGo ?_; (conv => arg 5; whnf))))
  (refine wP _ _ (call_op rfl (entersB_of Try.func7 (by kernel_rfl)) rfl (awake_spec _ _)) ?_; ((conv => arg 5; whnf); repeat ((first | (with_reducible refine wT ?_) | (with_reducible refine wF ?_) | (with_reducible refine wO (by kernel_rfl) ?_)); refine wGo ?_; (conv => arg 5; whnf))))
  refine wC (fun h => absurd h (by decide)) (fun _ => ?_)
  (refine wGo ?_; ((conv => arg 5; whnf); repeat ((first | (with_reducible refine wT ?_) | (with_reducible refine wF ?_) | (with_reducible refine wO (by kernel_rfl) ?_)); refine wGo ?_; (conv => arg 5; whnf))))
  refine wC (fun h1 => ?_) (fun h1 => ?_)
  · (refine wGo ?_; ((conv => arg 5; whnf); repeat ((first | (with_reducible refine wT ?_) | (with_reducible refine wF ?_) | (with_reducible refine wO (by kernel_rfl) ?_)); refine wGo ?_; (conv => arg 5; whnf))))
    exact wD <| cutR (Ends.plain (.inr rfl) rfl rfl)
  (refine wGo ?_; ((conv => arg 5; whnf); repeat ((first | (with_reducible refine wT ?_) | (with_reducible refine wF ?_) | (with_reducible refine wO (by kernel_rfl) ?_)); refine wGo ?_; (conv => arg 5; whnf))))
  refine wC (fun h2 => ?_) (fun h2 => ?_)
  · (refine wGo ?_; ((conv => arg 5; whnf); repeat ((first | (with_reducible refine wT ?_) | (with_reducible refine wF ?_) | (with_reducible refine wO (by kernel_rfl) ?_)); refine wGo ?_; (conv => arg 5; whnf))))
    exact wD <| cutR (Ends.plain (.inr rfl) rfl rfl)
  (refine wGo ?_; ((conv => arg 5; whnf); repeat ((first | (with_reducible refine wT ?_) | (with_reducible refine wF ?_) | (with_reducible refine wO (by kernel_rfl) ?_)); refine wGo ?_; (conv => arg 5; whnf))))
  have hl60 : l.length ≤ 60 := by simp only [decide_eq_false_iff_not] at h1; omega
  have hm60 : more.length ≤ 60 := by simp only [decide_eq_false_iff_not] at h2; omega
  (refine wP _ _ (call_op rfl (entersB_of Try.func8 (by kernel_rfl)) rfl (fill_spec l (by omega) rfl (by decide))) ?_; ((conv => arg 5; whnf); repeat ((first | (with_reducible refine wT ?_) | (with_reducible refine wF ?_) | (with_reducible refine wO (by kernel_rfl) ?_)); refine wGo ?_; (conv => arg 5; whnf))))
  obtain ⟨hist, hh1, hh2⟩ := fill_hist l l.length
  have hSs : (fillU l l.length).steps.length ≤ 60 := by have := fillU_len l l.length; omega
  have hRl : (fillR l l.length).P.length ≤ 60 := by have := (fillR_len l l.length).2; omega
  generalize fillU l l.length = S at *
  generalize fillR l l.length = R at *
  have hC0 : ∀ ids : List Nat, ids[0]? = some 0 → ids[1]? = some 1 → ∀ i, i < C.n0 → ids[i]? = some i := fun ids e0 e1 i hi => by
    rw [hC] at hi
    match i, hi with
    | 0, _ => exact e0
    | 1, _ => exact e1
  refine wD <| cutG (Tri.ent (Ent.unpair (c := 14) (t1 := 5) (t2 := 6) rfl rfl rfl) ?_)
  (refine Tri.cut 2 Try.mixed Try.T_ok ?_; ((conv => arg 5; whnf); repeat ((first | (with_reducible refine wT ?_) | (with_reducible refine wF ?_) | (with_reducible refine wO (by kernel_rfl) ?_)); refine wGo ?_; (conv => arg 5; whnf))))
  (refine wP _ _ (call_op rfl (entersB_of Try.func9 (by kernel_rfl)) rfl (mark_spec S rfl rfl)) ?_; ((conv => arg 5; whnf); repeat ((first | (with_reducible refine wT ?_) | (with_reducible refine wF ?_) | (with_reducible refine wO (by kernel_rfl) ?_)); refine wGo ?_; (conv => arg 5; whnf))))
  (refine wP _ _ (call_op rfl (entersB_of Try.func24 (by kernel_rfl)) rfl (ucopy_spec S (by omega) rfl rfl)) ?_; ((conv => arg 5; whnf); repeat ((first | (with_reducible refine wT ?_) | (with_reducible refine wF ?_) | (with_reducible refine wO (by kernel_rfl) ?_)); refine wGo ?_; (conv => arg 5; whnf))))
  refine wD <| cutG <| Tri.seq ?_
  (refine Tri.cut 1 Try.mixed Try.T_ok ?_; ((conv => arg 5; whnf); repeat ((first | (with_reducible refine wT ?_) | (with_reducible refine wF ?_) | (with_reducible refine wO (by kernel_rfl) ?_)); refine wGo ?_; (conv => arg 5; whnf))))
  refine wD <| cutG <| Tri.block ?_
  refine Tri.loop (α := { i : Nat // i ≤ more.length }) (fun i => ubackSt l more S R (runB S more i.1) i.1) (fun i => more.length - i.1) ⟨0, Nat.zero_le _⟩ ?_ ?_
  · exact Ent.ren [0, 1, 20, 21, 28, 27] (by decide) rfl (hC0 _ rfl rfl) (by rw [hC]; decide) rfl ⟨rfl, rfl, rfl, rfl, rfl, rfl, rfl, rfl, trivial⟩ ⟨⟨_, rfl, rfl, rfl, fun _ _ => rfl⟩, ⟨_, rfl, rfl, rfl, fun _ _ => rfl⟩, ⟨_, rfl, rfl⟩, ⟨_, rfl, rfl⟩, ⟨_, rfl, rfl, rfl⟩, ⟨_, rfl, rfl⟩, trivial⟩
  rintro ⟨i, hi⟩
  dsimp only
  have hT := runB_len S more i
  (refine Tri.cut 1 Try.mixed Try.T_ok ?_; ((conv => arg 5; whnf); repeat ((first | (with_reducible refine wT ?_) | (with_reducible refine wF ?_) | (with_reducible refine wO (by kernel_rfl) ?_)); refine wGo ?_; (conv => arg 5; whnf))))
  refine wC (fun h3 => ?_) (fun h3 => ?_)
  case refine_2 =>
    (refine wGo ?_; ((conv => arg 5; whnf); repeat ((first | (with_reducible refine wT ?_) | (with_reducible refine wF ?_) | (with_reducible refine wO (by kernel_rfl) ?_)); refine wGo ?_; (conv => arg 5; whnf))))
    obtain ⟨hist', k1, k2⟩ := run_hist hh1 hh2 more i
    have hb := back_twin k1 hT.1 k2
    have hb2 : Twin S R := by rw [← hh2]; exact hh1.now
    have hbl := hb.coins_len
    have hbl2 := hb2.coins_len
    refine wD <| cutE <| loopX <| blockX <| cutG <| Tri.of Try.mixed Try.T_ok ?_
    (refine wBegin ?_; ((conv => arg 5; whnf); repeat ((first | (with_reducible refine wT ?_) | (with_reducible refine wF ?_) | (with_reducible refine wO (by kernel_rfl) ?_)); refine wGo ?_; (conv => arg 5; whnf))))
    refine wC (fun _ => ?_) (fun h => absurd h (by decide))
    (refine wGo ?_; ((conv => arg 5; whnf); repeat ((first | (with_reducible refine wT ?_) | (with_reducible refine wF ?_) | (with_reducible refine wO (by kernel_rfl) ?_)); refine wGo ?_; (conv => arg 5; whnf))))
    (refine wP _ _ (call_op rfl (entersB_of Try.func15 (by kernel_rfl)) rfl (back_spec (runB S more i) S.steps.length (by omega) rfl rfl)) ?_; ((conv => arg 5; whnf); repeat ((first | (with_reducible refine wT ?_) | (with_reducible refine wF ?_) | (with_reducible refine wO (by kernel_rfl) ?_)); refine wGo ?_; (conv => arg 5; whnf))))
    refine wC (fun _ => ?_) (fun h => absurd h (by rw [decide_eq_true hT.1]; decide))
    (refine wGo ?_; ((conv => arg 5; whnf); repeat ((first | (with_reducible refine wT ?_) | (with_reducible refine wF ?_) | (with_reducible refine wO (by kernel_rfl) ?_)); refine wGo ?_; (conv => arg 5; whnf))))
    (refine wP _ _ (call_op rfl (entersB_of Try.func20 (by kernel_rfl)) rfl (same_spec ((runB S more i).back S.steps.length) R hb (by omega) rfl rfl rfl)) ?_; ((conv => arg 5; whnf); repeat ((first | (with_reducible refine wT ?_) | (with_reducible refine wF ?_) | (with_reducible refine wO (by kernel_rfl) ?_)); refine wGo ?_; (conv => arg 5; whnf))))
    (refine wP _ _ (call_op rfl (entersB_of Try.func20 (by kernel_rfl)) rfl (same_spec S R hb2 (by omega) rfl rfl rfl)) ?_; ((conv => arg 5; whnf); repeat ((first | (with_reducible refine wT ?_) | (with_reducible refine wF ?_) | (with_reducible refine wO (by kernel_rfl) ?_)); refine wGo ?_; (conv => arg 5; whnf))))
    exact Ends.plain (.inr rfl) rfl rfl
  (refine wGo ?_; ((conv => arg 5; whnf); repeat ((first | (with_reducible refine wT ?_) | (with_reducible refine wF ?_) | (with_reducible refine wO (by kernel_rfl) ?_)); refine wGo ?_; (conv => arg 5; whnf))))
  have h3' : i < more.length := by simp only [decide_eq_true_eq] at h3; omega
  have hwi : IntKind.i64.wrap ((i : Int) + 1) = ((i + 1 : Nat) : Int) := by rw [wrap_i64 (by omega) (by omega)]; omega
  have hgi : more.getD (0 + ((i : Nat) : Int).toNat) default = more.getD i default := by simp
  refine wD <| cutG <| Tri.seq <| Tri.block ?_
  (refine Tri.cut 1 Try.mixed Try.T_ok ?_; ((conv => arg 5; whnf); repeat ((first | (with_reducible refine wT ?_) | (with_reducible refine wF ?_) | (with_reducible refine wO (by kernel_rfl) ?_)); refine wGo ?_; (conv => arg 5; whnf))))
  refine wN ⟨by omega, by omega⟩ ?_
  (refine wGo ?_; ((conv => arg 5; whnf); repeat ((first | (with_reducible refine wT ?_) | (with_reducible refine wF ?_) | (with_reducible refine wO (by kernel_rfl) ?_)); refine wGo ?_; (conv => arg 5; whnf))))
  refine wN (by omega) ?_
  (refine wGo ?_; ((conv => arg 5; whnf); repeat ((first | (with_reducible refine wT ?_) | (with_reducible refine wF ?_) | (with_reducible refine wO (by kernel_rfl) ?_)); refine wGo ?_; (conv => arg 5; whnf))))
  refine wD <| cutG <| Tri.cond rfl (fun h5 => ?_) (fun h5 => ?_)
  · have hstep : runB S more (i + 1) = (runB S more i).spend (more.getD (0 + ((i : Nat) : Int).toNat) default).p := by
      simp only [runB, stepB]
      rw [← hgi, if_pos (show evenB _ = true from h5)]
    refine Tri.of Try.mixed Try.T_ok ?_
    (refine wBegin ?_; ((conv => arg 5; whnf); repeat ((first | (with_reducible refine wT ?_) | (with_reducible refine wF ?_) | (with_reducible refine wO (by kernel_rfl) ?_)); refine wGo ?_; (conv => arg 5; whnf))))
    refine wN ⟨by omega, by omega⟩ ?_
    (refine wGo ?_; ((conv => arg 5; whnf); repeat ((first | (with_reducible refine wT ?_) | (with_reducible refine wF ?_) | (with_reducible refine wO (by kernel_rfl) ?_)); refine wGo ?_; (conv => arg 5; whnf))))
    refine wN (by omega) ?_
    (refine wGo ?_; ((conv => arg 5; whnf); repeat ((first | (with_reducible refine wT ?_) | (with_reducible refine wF ?_) | (with_reducible refine wO (by kernel_rfl) ?_)); refine wGo ?_; (conv => arg 5; whnf))))
    (refine wP _ _ (call_op rfl (entersB_of Try.func12 (by kernel_rfl)) rfl (spend_spec (runB S more i) (more.getD (0 + ((i : Nat) : Int).toNat) default).p (by omega) rfl rfl)) ?_; ((conv => arg 5; whnf); repeat ((first | (with_reducible refine wT ?_) | (with_reducible refine wF ?_) | (with_reducible refine wO (by kernel_rfl) ?_)); refine wGo ?_; (conv => arg 5; whnf))))
    refine wD <| blockN <| Tri.of Try.mixed Try.T_ok ?_
    (refine wBegin ?_; ((conv => arg 5; whnf); repeat ((first | (with_reducible refine wT ?_) | (with_reducible refine wF ?_) | (with_reducible refine wO (by kernel_rfl) ?_)); refine wGo ?_; (conv => arg 5; whnf))))
    refine wD <| loopN ⟨⟨i + 1, h3'⟩, by simp only; omega, ?_⟩
    exact Ent.ren [0, 1, 2, 3, 4, 5] (by decide) rfl (hC0 _ rfl rfl) (by rw [hC]; decide) rfl ⟨rfl, rfl, rfl, rfl, rfl, rfl, rfl, congrArg (fun n : Int => some (XV.int .i64 n)) hwi, trivial⟩ ⟨⟨_, rfl, rfl, rfl, fun _ _ => rfl⟩, ⟨_, rfl, rfl, rfl, fun _ _ => rfl⟩, ⟨_, rfl, congrArg usetP hstep.symm⟩, ⟨_, rfl, rfl⟩, ⟨_, rfl, rfl, rfl⟩, ⟨_, rfl, rfl⟩, trivial⟩
  · have hstep : runB S more (i + 1) = (runB S more i).add (more.getD (0 + ((i : Nat) : Int).toNat) default).p (more.getD (0 + ((i : Nat) : Int).toNat) default).c := by
      simp only [runB, stepB]
      rw [← hgi, if_neg (by rw [show evenB _ = false from h5]; simp)]
    refine Tri.of Try.mixed Try.T_ok ?_
    (refine wBegin ?_; ((conv => arg 5; whnf); repeat ((first | (with_reducible refine wT ?_) | (with_reducible refine wF ?_) | (with_reducible refine wO (by kernel_rfl) ?_)); refine wGo ?_; (conv => arg 5; whnf))))
    refine wN ⟨by omega, by omega⟩ ?_
    (refine wGo ?_; ((conv => arg 5; whnf); repeat ((first | (with_reducible refine wT ?_) | (with_reducible refine wF ?_) | (with_reducible refine wO (by kernel_rfl) ?_)); refine wGo ?_; (conv => arg 5; whnf))))
    refine wN (by omega) ?_
    (refine wGo ?_; ((conv => arg 5; whnf); repeat ((first | (with_reducible refine wT ?_) | (with_reducible refine wF ?_) | (with_reducible refine wO (by kernel_rfl) ?_)); refine wGo ?_; (conv => arg 5; whnf))))
    refine wN ⟨by omega, by omega⟩ ?_
    (refine wGo ?_; ((conv => arg 5; whnf); repeat ((first | (with_reducible refine wT ?_) | (with_reducible refine wF ?_) | (with_reducible refine wO (by kernel_rfl) ?_)); refine wGo ?_; (conv => arg 5; whnf))))
    refine wN (by omega) ?_
    (refine wGo ?_; ((conv => arg 5; whnf); repeat ((first | (with_reducible refine wT ?_) | (with_reducible refine wF ?_) | (with_reducible refine wO (by kernel_rfl) ?_)); refine wGo ?_; (conv => arg 5; whnf))))
    (refine wP _ _ (call_op rfl (entersB_of Try.func11 (by kernel_rfl)) rfl (lawCoin_spec (more.getD (0 + ((i : Nat) : Int).toNat) default).c _ _)) ?_; ((conv => arg 5; whnf); repeat ((first | (with_reducible refine wT ?_) | (with_reducible refine wF ?_) | (with_reducible refine wO (by kernel_rfl) ?_)); refine wGo ?_; (conv => arg 5; whnf))))
    (refine wP _ _ (call_op rfl (entersB_of Try.func10 (by kernel_rfl)) rfl (uadd_spec (runB S more i) (more.getD (0 + ((i : Nat) : Int).toNat) default).p (more.getD (0 + ((i : Nat) : Int).toNat) default).c (by omega) rfl rfl)) ?_; ((conv => arg 5; whnf); repeat ((first | (with_reducible refine wT ?_) | (with_reducible refine wF ?_) | (with_reducible refine wO (by kernel_rfl) ?_)); refine wGo ?_; (conv => arg 5; whnf))))
    refine wD <| blockN <| Tri.of Try.mixed Try.T_ok ?_
    (refine wBegin ?_; ((conv => arg 5; whnf); repeat ((first | (with_reducible refine wT ?_) | (with_reducible refine wF ?_) | (with_reducible refine wO (by kernel_rfl) ?_)); refine wGo ?_; (conv => arg 5; whnf))))
    refine wD <| loopN ⟨⟨i + 1, h3'⟩, by simp only; omega, ?_⟩
    exact Ent.ren [0, 1, 2, 3, 4, 5] (by decide) rfl (hC0 _ rfl rfl) (by rw [hC]; decide) rfl ⟨rfl, rfl, rfl, rfl, rfl, rfl, rfl, congrArg (fun n : Int => some (XV.int .i64 n)) hwi, trivial⟩ ⟨⟨_, rfl, rfl, rfl, fun _ _ => rfl⟩, ⟨_, rfl, rfl, rfl, fun _ _ => rfl⟩, ⟨_, rfl, congrArg usetP hstep.symm⟩, ⟨_, rfl, rfl⟩, ⟨_, rfl, rfl, rfl⟩, ⟨_, rfl, rfl⟩, trivial⟩
end Go.Proofs.Ytfdmlpdhngmbiaa
