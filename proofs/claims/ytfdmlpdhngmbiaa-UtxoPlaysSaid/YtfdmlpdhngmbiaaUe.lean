/- The walk of UtxoNests. -/
import Derived.Test.YtfdmlpdhngmbiaaUd
import Derived.Test.YtfdmlpdhngmbiaaUl
namespace Go.Proofs.Ytfdmlpdhngmbiaa
open Go.Sx

structure Deed where
  act : Int64
  num : Int64
  p : Pt
  c : Coin
  deriving DecidableEq, Inhabited
def Deed.cells (x : Deed) : List Value := [i64 x.act, i64 x.num, u8 x.p.tx.b0, u8 x.p.tx.b1, u8 x.p.tx.b2, u8 x.p.tx.b3, u8 x.p.tx.b4, u8 x.p.tx.b5, u8 x.p.tx.b6, u8 x.p.tx.b7, i64 x.p.no,
  u8 x.c.to.b0, u8 x.c.to.b1, u8 x.c.to.b2, u8 x.c.to.b3, u8 x.c.to.b4, u8 x.c.to.b5, u8 x.c.to.b6, u8 x.c.to.b7, i64 x.c.amt, i64 x.c.height, .bool x.c.base]

def deedsF (l : List Deed) : Nat → List Value := fun i => (l.getD i default).cells
def bytesF (l : List UInt8) : Nat → List Value := fun i => [u8 (l.getD i 0)]
def marksF (l : List Nat) : Nat → List Value := fun i => [.int .i64 ((l.getD i 0 : Nat) : Int)]

def nestsM (l : List Deed) (cuts : List UInt8) : Mem := [(0, .ro 22 l.length (deedsF l)), (1, .ro 1 cuts.length (bytesF cuts))]

def evenB (x : Deed) : Bool := bitI .and .i64 x.act.toInt 1 == 0
def step1 (S : USet) (x : Deed) : USet := if evenB x = true then S.add x.p x.c else S.spend x.p
/-- The set behind the first i deeds. -/
def runN (l : List Deed) : Nat → USet
  | 0 => USet.empty
  | i + 1 => step1 (runN l i) (l.getD i default)

theorem step1_len (S : USet) (x : Deed) : S.steps.length ≤ (step1 S x).steps.length ∧ (step1 S x).steps.length ≤ S.steps.length + 1 := by
  unfold step1 USet.add USet.spend
  split
  · split
    · simp [USet.add1]
    · exact ⟨Nat.le_refl _, Nat.le_succ _⟩
  · split
    · simp [USet.spend1]
    · exact ⟨Nat.le_refl _, Nat.le_succ _⟩
theorem runN_len (l : List Deed) (i : Nat) : (runN l i).steps.length ≤ i := by
  induction i with
  | zero => exact Nat.le_refl _
  | succ i ih =>
    have := (step1_len (runN l i) (l.getD i default)).2
    simp only [runN]
    omega

/-- The marks that were made: each not above the next one, none above n. -/
def marksOK (n : Nat) (l : List Nat) : Prop := l.Pairwise (· ≤ ·) ∧ ∀ x ∈ l, x ≤ n
theorem marksOK.mono {n n' : Nat} {l : List Nat} (h : marksOK n l) (hn : n ≤ n') : marksOK n' l := ⟨h.1, fun x hx => Nat.le_trans (h.2 x hx) hn⟩
theorem marksOK.snoc {n : Nat} {l : List Nat} (h : marksOK n l) : marksOK n (l ++ [n]) := by
  refine ⟨?_, ?_⟩
  · rw [List.pairwise_append]
    exact ⟨h.1, by simp, fun a ha b hb => by simp at hb; subst hb; exact h.2 a ha⟩
  · intro x hx
    simp only [List.mem_append, List.mem_singleton] at hx
    rcases hx with hx | rfl
    · exact h.2 x hx
    · exact Nat.le_refl _

theorem marks_snoc (l : List Nat) (a i : Nat) (hi : i < l.length + 1) : snocF (marksF l) l.length [.int .i64 (a : Int)] i = marksF (l ++ [a]) i := by
  have e : Nat.blt i l.length = decide (i < l.length) := by
    by_cases h : i < l.length
    · rw [decide_eq_true h]; simpa using h
    · rw [decide_eq_false h]
      cases hb : Nat.blt i l.length with
      | false => rfl
      | true => exact absurd (by simpa using hb) h
  simp only [snocF, e, marksF]
  by_cases h : i < l.length
  · simp [h, List.getD_eq_getElem?_getD, List.getElem?_append_left h]
  · have h' : i = l.length := by omega
    simp [h', List.getD_eq_getElem?_getD]

/-- At the head of the outer loop. -/
def nestsSt (l : List Deed) (cuts : List UInt8) (i : Nat) (ms : List Nat) (k : Option XV) : St :=
  ⟨[some (XV.sv (.slc 0 22 0 l.length)), some (XV.sv (.slc 1 1 0 cuts.length)), none, none, some (XV.bool false), some (XV.sv (.ptr 2 0 0 0)), none, some (XV.sv (.ptr 3 0 0 0)), none, some (XV.sv (.ptr 4 0 0 0)), some (XV.sv (.slc 5 1 0 ms.length)), some (XV.int .i64 i), k] ++ List.replicate 168 none,
   [(0, .ro 22 l.length (deedsF l)), (1, .ro 1 cuts.length (bytesF cuts)), (2, .abs (usetP (runN l i))), (3, .abs (usetP (runN l i))), (4, .cells 30 [.raw (.int .i64 (0 : Nat))]), (5, .vec 30 1 ms.length (marksF ms))], 6⟩

/-- At the head of the last loop: j marks are left. -/
def undoSt (ms : List Nat) (j : Nat) (A B : USet) : St :=
  ⟨[none, none, none, none, some (XV.bool false), some (XV.sv (.ptr 2 0 0 0)), none, some (XV.sv (.ptr 3 0 0 0)), none, some (XV.sv (.ptr 4 0 0 0)), some (XV.sv (.slc 5 1 0 ms.length)), none, none, some (XV.int .i64 ((j : Int) - 1))] ++ List.replicate 167 none,
   [(2, .abs (usetP A)), (3, .abs (usetP B)), (4, .cells 30 [.raw (.int .i64 (0 : Nat))]), (5, .vec 30 1 ms.length (marksF ms))], 6⟩

theorem runN_reach (l : List Deed) : ∀ i, Reach (runN l i)
  | 0 => Reach.empty
  | i + 1 => by
    simp only [runN, step1]
    split
    · exact Reach.add _ _ (runN_reach l i)
    · exact Reach.spend _ (runN_reach l i)

/-- A mark below is not above. -/
theorem marks_le {n : Nat} {l : List Nat} (h : marksOK n l) {i j : Nat} (hij : i ≤ j) (hj : j < l.length) : l.getD i 0 ≤ l.getD j 0 := by
  rcases Nat.lt_or_ge i j with h' | h'
  · have hi : i < l.length := by omega
    simp only [List.getD_eq_getElem?_getD, List.getElem?_eq_getElem hi, List.getElem?_eq_getElem hj, Option.getD_some]
    exact List.pairwise_iff_getElem.1 h.1 i j hi hj h'
  · have : i = j := by omega
    rw [this]; exact Nat.le_refl _
theorem marks_top {n : Nat} {l : List Nat} (h : marksOK n l) {j : Nat} (hj : j < l.length) : l.getD j 0 ≤ n := by
  simp only [List.getD_eq_getElem?_getD, List.getElem?_eq_getElem hj, Option.getD_some]
  exact h.2 _ (List.getElem_mem hj)

set_option maxHeartbeats 4000000 in
set_option maxRecDepth 100000 in
theorem nests_spec (l : List Deed) (cuts : List UInt8) {M : Mem} {d : Nat} (hM : ∀ i ch, (nestsM l cuts).get i = some ch → M.get i = some ch) (hd : 2 ≤ d) : CallSpec Try.prog 3 [.one (.slc 0 22 0 l.length), .one (.slc 1 1 0 cuts.length)] M d { v := XV.bool true } (List.range 2) := by
  refine spec_reads Try.T_ok Try.func3 rfl [.one (.slc 0 22 0 l.length), .one (.slc 1 1 0 cuts.length)] (XV.bool true) (nestsM l cuts) 2 rfl rfl ?_ (fun C hC => ?_) hM hd
  · intro i ch hi
    simp only [nestsM, Mem.get, nbeq] at hi
    by_cases h0 : 0 = i
    · subst h0; simp at hi; subst hi; exact ⟨by omega, rfl⟩
    · by_cases h1 : 1 = i
      · subst h1; simp at hi; subst hi; exact ⟨by omega, rfl⟩
      · simp [h0, h1] at hi
  (refine Tri.cut 4 Try.mixed Try.T_ok ?_; ((conv => arg 5; whnf); repeat ((first | (with_reducible refine wT ?_) | (with_reducible refine wF ?_) | (with_reducible refine wO (by kernel_rfl) ?_)); refine wGo ?_; (conv => arg 5; whnf))))
  (refine wP _ _ (call_op rfl (entersB_of Try.func7 (by kernel_rfl)) rfl (awake_spec _ _)) ?_; ((conv => arg 5; whnf); repeat ((first | (with_reducible refine wT ?_) | (with_reducible refine wF ?_) | (with_reducible refine wO (by kernel_rfl) ?_)); refine wGo ?_; (conv => arg 5; whnf))))
  refine wC (fun h => absurd h (by decide)) (fun _ => ?_)
  (refine wGo ?_; ((conv => arg 5; whnf); repeat ((first | (with_reducible refine wT ?_) | (with_reducible refine wF ?_) | (with_reducible refine wO (by kernel_rfl) ?_)); refine wGo ?_; (conv => arg 5; whnf))))
  refine wC (fun h1 => ?_) (fun h1 => ?_)
  · (refine wGo ?_; ((conv => arg 5; whnf); repeat ((first | (with_reducible refine wT ?_) | (with_reducible refine wF ?_) | (with_reducible refine wO (by kernel_rfl) ?_)); refine wGo ?_; (conv => arg 5; whnf))))
    exact wD <| cutR (Ends.plain (.inr rfl) rfl rfl)
  (refine wGo ?_; ((conv => arg 5; whnf); repeat ((first | (with_reducible refine wT ?_) | (with_reducible refine wF ?_) | (with_reducible refine wO (by kernel_rfl) ?_)); refine wGo ?_; (conv => arg 5; whnf))))
  refine wC (fun h2 => ?_) (fun h2 => ?_)
  · (refine wGo ?_; ((conv => arg 5; whnf); repeat ((first | (with_reducible refine wT ?_) | (with_reducible refine wF ?_) | (with_reducible refine wO (by kernel_rfl) ?_)); refine wGo ?_; (conv => arg 5; whnf))))
    exact wD <| cutR (Ends.plain (.inr rfl) rfl rfl)
  (refine wGo ?_; ((conv => arg 5; whnf); repeat ((first | (with_reducible refine wT ?_) | (with_reducible refine wF ?_) | (with_reducible refine wO (by kernel_rfl) ?_)); refine wGo ?_; (conv => arg 5; whnf))))
  (refine wP _ _ (call_op rfl (entersB_of Try.func8 (by kernel_rfl)) rfl (fill_nil_spec _ _)) ?_; ((conv => arg 5; whnf); repeat ((first | (with_reducible refine wT ?_) | (with_reducible refine wF ?_) | (with_reducible refine wO (by kernel_rfl) ?_)); refine wGo ?_; (conv => arg 5; whnf))))
  have hl40 : l.length ≤ 40 := by simp only [decide_eq_false_iff_not] at h1; omega
  have hc10 : cuts.length ≤ 10 := by simp only [decide_eq_false_iff_not] at h2; omega
  have hC0 : ∀ ids : List Nat, ids[0]? = some 0 → ids[1]? = some 1 → ∀ i, i < C.n0 → ids[i]? = some i := fun ids e0 e1 i hi => by
    rw [hC] at hi
    match i, hi with
    | 0, _ => exact e0
    | 1, _ => exact e1
  have hC1 : C.n0 ≤ 6 := by rw [hC]; decide
  refine wD <| cutG (Tri.ent (Ent.unpair (c := 13) (t1 := 5) (t2 := 6) rfl rfl rfl) ?_)
  (refine Tri.cut 1 Try.mixed Try.T_ok ?_; ((conv => arg 5; whnf); repeat ((first | (with_reducible refine wT ?_) | (with_reducible refine wF ?_) | (with_reducible refine wO (by kernel_rfl) ?_)); refine wGo ?_; (conv => arg 5; whnf))))
  (refine wP _ _ (call_op rfl (entersB_of Try.func8 (by kernel_rfl)) rfl (fill_nil_spec _ _)) ?_; ((conv => arg 5; whnf); repeat ((first | (with_reducible refine wT ?_) | (with_reducible refine wF ?_) | (with_reducible refine wO (by kernel_rfl) ?_)); refine wGo ?_; (conv => arg 5; whnf))))
  refine wD <| cutG (Tri.ent (Ent.unpair (c := 21) (t1 := 7) (t2 := 8) rfl rfl rfl) ?_)
  (refine Tri.cut 3 Try.mixed Try.T_ok ?_; ((conv => arg 5; whnf); repeat ((first | (with_reducible refine wT ?_) | (with_reducible refine wF ?_) | (with_reducible refine wO (by kernel_rfl) ?_)); refine wGo ?_; (conv => arg 5; whnf))))
  (refine wP _ _ (call_op rfl (entersB_of Try.func9 (by kernel_rfl)) rfl (mark_spec USet.empty rfl rfl)) ?_; ((conv => arg 5; whnf); repeat ((first | (with_reducible refine wT ?_) | (with_reducible refine wF ?_) | (with_reducible refine wO (by kernel_rfl) ?_)); refine wGo ?_; (conv => arg 5; whnf))))
  refine wD <| cutG (Tri.ent (Ent.nils (t := 10) rfl 30 1) (Tri.seq ?_))
  (refine Tri.cut 1 Try.mixed Try.T_ok ?_; ((conv => arg 5; whnf); repeat ((first | (with_reducible refine wT ?_) | (with_reducible refine wF ?_) | (with_reducible refine wO (by kernel_rfl) ?_)); refine wGo ?_; (conv => arg 5; whnf))))
  refine wD <| cutG (Tri.block ?_)
  refine Tri.loop (α := { x : Nat × List Nat // x.1 ≤ l.length ∧ marksOK (runN l x.1).steps.length x.2 ∧ x.2.length ≤ x.1 * cuts.length }) (fun x => nestsSt l cuts x.1.1 x.1.2 none) (fun x => l.length - x.1.1) ⟨(0, []), Nat.zero_le _, ⟨by simp, by simp⟩, Nat.zero_le _⟩ ?_ ?_
  · exact Ent.ren [0, 1, 19, 27, 37, 40] (by decide) rfl (hC0 _ rfl rfl) hC1 rfl ⟨rfl, rfl, rfl, rfl, rfl, rfl, rfl, rfl, trivial⟩
      ⟨⟨_, rfl, rfl, rfl, fun _ _ => rfl⟩, ⟨_, rfl, rfl, rfl, fun _ _ => rfl⟩, ⟨_, rfl, rfl⟩, ⟨_, rfl, rfl⟩, ⟨_, rfl, rfl, rfl⟩, ⟨_, rfl, rfl, rfl, Nat.le_refl _, fun i hi => absurd hi (Nat.not_lt_zero i)⟩, trivial⟩
  rintro ⟨⟨i, ms⟩, hi, hms, hml⟩
  simp only at hi hms hml ⊢
  (refine Tri.cut 1 Try.mixed Try.T_ok ?_; ((conv => arg 5; whnf); repeat ((first | (with_reducible refine wT ?_) | (with_reducible refine wF ?_) | (with_reducible refine wO (by kernel_rfl) ?_)); refine wGo ?_; (conv => arg 5; whnf))))
  refine wC (fun h3 => ?_) (fun h3 => ?_)
  case refine_2 =>
    (refine wGo ?_; ((conv => arg 5; whnf); repeat ((first | (with_reducible refine wT ?_) | (with_reducible refine wF ?_) | (with_reducible refine wO (by kernel_rfl) ?_)); refine wGo ?_; (conv => arg 5; whnf))))
    refine wD <| cutE <| loopX <| blockX <| cutG ?_
    (refine Tri.cut 1 Try.mixed Try.T_ok ?_; ((conv => arg 5; whnf); repeat ((first | (with_reducible refine wT ?_) | (with_reducible refine wF ?_) | (with_reducible refine wO (by kernel_rfl) ?_)); refine wGo ?_; (conv => arg 5; whnf))))
    (refine wP _ _ (call_op rfl (entersB_of Try.func13 (by kernel_rfl)) rfl (total_spec (runN l i) rfl rfl)) ?_; ((conv => arg 5; whnf); repeat ((first | (with_reducible refine wT ?_) | (with_reducible refine wF ?_) | (with_reducible refine wO (by kernel_rfl) ?_)); refine wGo ?_; (conv => arg 5; whnf))))
    (refine wP _ _ (call_op rfl (entersB_of Try.func13 (by kernel_rfl)) rfl (total_spec (runN l i) rfl rfl)) ?_; ((conv => arg 5; whnf); repeat ((first | (with_reducible refine wT ?_) | (with_reducible refine wF ?_) | (with_reducible refine wO (by kernel_rfl) ?_)); refine wGo ?_; (conv => arg 5; whnf))))
    refine wC (fun h => absurd h (by simp)) (fun _ => ?_)
    (refine wGo ?_; ((conv => arg 5; whnf); repeat ((first | (with_reducible refine wT ?_) | (with_reducible refine wF ?_) | (with_reducible refine wO (by kernel_rfl) ?_)); refine wGo ?_; (conv => arg 5; whnf))))
    (refine wP _ _ (call_op rfl (entersB_of Try.func14 (by kernel_rfl)) rfl (len_spec (runN l i) rfl rfl)) ?_; ((conv => arg 5; whnf); repeat ((first | (with_reducible refine wT ?_) | (with_reducible refine wF ?_) | (with_reducible refine wO (by kernel_rfl) ?_)); refine wGo ?_; (conv => arg 5; whnf))))
    (refine wP _ _ (call_op rfl (entersB_of Try.func14 (by kernel_rfl)) rfl (len_spec (runN l i) rfl rfl)) ?_; ((conv => arg 5; whnf); repeat ((first | (with_reducible refine wT ?_) | (with_reducible refine wF ?_) | (with_reducible refine wO (by kernel_rfl) ?_)); refine wGo ?_; (conv => arg 5; whnf))))
    refine wC (fun h => absurd h (by simp)) (fun _ => ?_)
    (refine wGo ?_; ((conv => arg 5; whnf); repeat ((first | (with_reducible refine wT ?_) | (with_reducible refine wF ?_) | (with_reducible refine wO (by kernel_rfl) ?_)); refine wGo ?_; (conv => arg 5; whnf))))
    refine wD <| cutG <| Tri.seq ?_
    (refine Tri.cut 1 Try.mixed Try.T_ok ?_; ((conv => arg 5; whnf); repeat ((first | (with_reducible refine wT ?_) | (with_reducible refine wF ?_) | (with_reducible refine wO (by kernel_rfl) ?_)); refine wGo ?_; (conv => arg 5; whnf))))
    have hml400 : ms.length ≤ 400 := by
      have := Nat.mul_le_mul hi hc10
      omega
    have hlenS : (runN l i).steps.length < 1000000 := by have := runN_len l i; omega
    have hw0 : IntKind.i64.wrap ((ms.length : Int) - 1) = (ms.length : Int) - 1 := wrap_i64 (by omega) (by omega)
    refine wD <| cutG <| Tri.block ?_
    refine Tri.loop (α := { x : Nat × USet // x.1 ≤ ms.length ∧ x.2.steps.length < 1000000 ∧ ∀ q, q < x.1 → ms.getD q 0 ≤ x.2.steps.length }) (fun x => undoSt ms x.1.1 x.1.2 (runN l i)) (fun x => x.1.1) ⟨(ms.length, runN l i), Nat.le_refl _, hlenS, fun q hq => marks_top hms hq⟩ ?_ ?_
    · exact Ent.ren [0, 1, 2, 3, 4, 5] (by decide) rfl (hC0 _ rfl rfl) hC1 rfl ⟨rfl, rfl, rfl, rfl, rfl, congrArg (fun n : Int => some (XV.int .i64 n)) hw0, trivial⟩
        ⟨⟨_, rfl, rfl⟩, ⟨_, rfl, rfl⟩, ⟨_, rfl, rfl, rfl⟩, ⟨_, rfl, rfl, rfl, Nat.le_refl _, fun _ _ => rfl⟩, trivial⟩
    rintro ⟨⟨j, A⟩, hj, hA, hjA⟩
    simp only at hj hA hjA ⊢
    (refine Tri.cut 1 Try.mixed Try.T_ok ?_; ((conv => arg 5; whnf); repeat ((first | (with_reducible refine wT ?_) | (with_reducible refine wF ?_) | (with_reducible refine wO (by kernel_rfl) ?_)); refine wGo ?_; (conv => arg 5; whnf))))
    refine wC (fun h5 => ?_) (fun h5 => ?_)
    case refine_2 =>
      (refine wGo ?_; ((conv => arg 5; whnf); repeat ((first | (with_reducible refine wT ?_) | (with_reducible refine wF ?_) | (with_reducible refine wO (by kernel_rfl) ?_)); refine wGo ?_; (conv => arg 5; whnf))))
      refine wD <| cutE <| loopX <| blockX <| cutG ?_
      (refine Tri.cut 1 Try.mixed Try.T_ok ?_; ((conv => arg 5; whnf); repeat ((first | (with_reducible refine wT ?_) | (with_reducible refine wF ?_) | (with_reducible refine wO (by kernel_rfl) ?_)); refine wGo ?_; (conv => arg 5; whnf))))
      (refine wP _ _ (call_op rfl (entersB_of Try.func8 (by kernel_rfl)) rfl (fill_nil_spec _ _)) ?_; ((conv => arg 5; whnf); repeat ((first | (with_reducible refine wT ?_) | (with_reducible refine wF ?_) | (with_reducible refine wO (by kernel_rfl) ?_)); refine wGo ?_; (conv => arg 5; whnf))))
      have hund := (runN_reach l i).undone
      refine wD <| cutG (Tri.ent (Ent.unpair (c := 8) (t1 := 14) (t2 := 15) rfl rfl rfl) (Tri.of Try.mixed Try.T_ok ?_))
      (refine wBegin ?_; ((conv => arg 5; whnf); repeat ((first | (with_reducible refine wT ?_) | (with_reducible refine wF ?_) | (with_reducible refine wO (by kernel_rfl) ?_)); refine wGo ?_; (conv => arg 5; whnf))))
      (refine wP _ _ (call_op rfl (entersB_of Try.func15 (by kernel_rfl)) rfl (back_spec (runN l i) 0 hlenS rfl rfl)) ?_; ((conv => arg 5; whnf); repeat ((first | (with_reducible refine wT ?_) | (with_reducible refine wF ?_) | (with_reducible refine wO (by kernel_rfl) ?_)); refine wGo ?_; (conv => arg 5; whnf))))
      refine wC (fun _ => ?_) (fun h => absurd h (by simp))
      (refine wGo ?_; ((conv => arg 5; whnf); repeat ((first | (with_reducible refine wT ?_) | (with_reducible refine wF ?_) | (with_reducible refine wO (by kernel_rfl) ?_)); refine wGo ?_; (conv => arg 5; whnf))))
      (refine wP _ _ (call_op rfl (entersB_of Try.func14 (by kernel_rfl)) rfl (len_spec ((runN l i).back 0) rfl rfl)) ?_; ((conv => arg 5; whnf); repeat ((first | (with_reducible refine wT ?_) | (with_reducible refine wF ?_) | (with_reducible refine wO (by kernel_rfl) ?_)); refine wGo ?_; (conv => arg 5; whnf))))
      refine wC (fun _ => ?_) (fun h => absurd h (by rw [hund.1]; simp))
      (refine wGo ?_; ((conv => arg 5; whnf); repeat ((first | (with_reducible refine wT ?_) | (with_reducible refine wF ?_) | (with_reducible refine wO (by kernel_rfl) ?_)); refine wGo ?_; (conv => arg 5; whnf))))
      (refine wP _ _ (call_op rfl (entersB_of Try.func13 (by kernel_rfl)) rfl (total_spec ((runN l i).back 0) rfl rfl)) ?_; ((conv => arg 5; whnf); repeat ((first | (with_reducible refine wT ?_) | (with_reducible refine wF ?_) | (with_reducible refine wO (by kernel_rfl) ?_)); refine wGo ?_; (conv => arg 5; whnf))))
      refine wC (fun _ => ?_) (fun h => absurd h (by rw [hund.2]; simp))
      (refine wGo ?_; ((conv => arg 5; whnf); repeat ((first | (with_reducible refine wT ?_) | (with_reducible refine wF ?_) | (with_reducible refine wO (by kernel_rfl) ?_)); refine wGo ?_; (conv => arg 5; whnf))))
      refine wC (fun _ => ?_) (fun _ => ?_)
      · (refine wGo ?_; ((conv => arg 5; whnf); repeat ((first | (with_reducible refine wT ?_) | (with_reducible refine wF ?_) | (with_reducible refine wO (by kernel_rfl) ?_)); refine wGo ?_; (conv => arg 5; whnf))))
        (refine wP _ _ (call_op rfl (entersB_of Try.func14 (by kernel_rfl)) rfl (len_spec USet.empty rfl rfl)) ?_; ((conv => arg 5; whnf); repeat ((first | (with_reducible refine wT ?_) | (with_reducible refine wF ?_) | (with_reducible refine wO (by kernel_rfl) ?_)); refine wGo ?_; (conv => arg 5; whnf))))
        exact Ends.plain (.inr rfl) rfl (congrArg XV.bool (by decide))
      · (refine wGo ?_; ((conv => arg 5; whnf); repeat ((first | (with_reducible refine wT ?_) | (with_reducible refine wF ?_) | (with_reducible refine wO (by kernel_rfl) ?_)); refine wGo ?_; (conv => arg 5; whnf))))
        (refine wP _ _ (call_op rfl (entersB_of Try.func14 (by kernel_rfl)) rfl (len_spec A rfl rfl)) ?_; ((conv => arg 5; whnf); repeat ((first | (with_reducible refine wT ?_) | (with_reducible refine wF ?_) | (with_reducible refine wO (by kernel_rfl) ?_)); refine wGo ?_; (conv => arg 5; whnf))))
        refine wC (fun _ => ?_) (fun h => absurd h (by simp))
        (refine wGo ?_; ((conv => arg 5; whnf); repeat ((first | (with_reducible refine wT ?_) | (with_reducible refine wF ?_) | (with_reducible refine wO (by kernel_rfl) ?_)); refine wGo ?_; (conv => arg 5; whnf))))
        (refine wP _ _ (call_op rfl (entersB_of Try.func14 (by kernel_rfl)) rfl (len_spec USet.empty rfl rfl)) ?_; ((conv => arg 5; whnf); repeat ((first | (with_reducible refine wT ?_) | (with_reducible refine wF ?_) | (with_reducible refine wO (by kernel_rfl) ?_)); refine wGo ?_; (conv => arg 5; whnf))))
        exact Ends.plain (.inr rfl) rfl (congrArg XV.bool (by decide))
    (refine wGo ?_; ((conv => arg 5; whnf); repeat ((first | (with_reducible refine wT ?_) | (with_reducible refine wF ?_) | (with_reducible refine wO (by kernel_rfl) ?_)); refine wGo ?_; (conv => arg 5; whnf))))
    have h5' : 1 ≤ j := by simp only [decide_eq_true_eq] at h5; omega
    refine wD <| cutG <| Tri.seq <| Tri.block ?_
    have hix : 0 + ((j : Int) - 1).toNat = j - 1 := by omega
    have hn : ms.getD (0 + ((j : Int) - 1).toNat) 0 ≤ A.steps.length := by rw [hix]; exact hjA (j - 1) (by omega)
    have hb1 : (A.back (ms.getD (0 + ((j : Int) - 1).toNat) 0)).steps.length = ms.getD (0 + ((j : Int) - 1).toNat) 0 := USet.back_len A hn
    have hb2 : ((A.back (ms.getD (0 + ((j : Int) - 1).toNat) 0)).back (ms.getD (0 + ((j : Int) - 1).toNat) 0)).steps.length = ms.getD (0 + ((j : Int) - 1).toNat) 0 := USet.back_len _ (by rw [hb1]; exact Nat.le_refl _)
    have hn2 : ms.getD (0 + ((j : Int) - 1).toNat) 0 ≤ (A.back (ms.getD (0 + ((j : Int) - 1).toNat) 0)).steps.length := by rw [hb1]; exact Nat.le_refl _
    have hwj : IntKind.i64.wrap ((j : Int) - 1 - 1) = ((j - 1 : Nat) : Int) - 1 := by rw [wrap_i64 (by omega) (by omega)]; omega
    (refine Tri.cut 2 Try.mixed Try.T_ok ?_; ((conv => arg 5; whnf); repeat ((first | (with_reducible refine wT ?_) | (with_reducible refine wF ?_) | (with_reducible refine wO (by kernel_rfl) ?_)); refine wGo ?_; (conv => arg 5; whnf))))
    refine wN ⟨by omega, by omega⟩ ?_
    (refine wGo ?_; ((conv => arg 5; whnf); repeat ((first | (with_reducible refine wT ?_) | (with_reducible refine wF ?_) | (with_reducible refine wO (by kernel_rfl) ?_)); refine wGo ?_; (conv => arg 5; whnf))))
    refine wN (by omega) ?_
    (refine wGo ?_; ((conv => arg 5; whnf); repeat ((first | (with_reducible refine wT ?_) | (with_reducible refine wF ?_) | (with_reducible refine wO (by kernel_rfl) ?_)); refine wGo ?_; (conv => arg 5; whnf))))
    (refine wP _ _ (call_op rfl (entersB_of Try.func15 (by kernel_rfl)) rfl (back_spec A (ms.getD (0 + ((j : Int) - 1).toNat) 0) hA rfl rfl)) ?_; ((conv => arg 5; whnf); repeat ((first | (with_reducible refine wT ?_) | (with_reducible refine wF ?_) | (with_reducible refine wO (by kernel_rfl) ?_)); refine wGo ?_; (conv => arg 5; whnf))))
    refine wC (fun h => absurd h (by rw [decide_eq_true hn]; decide)) (fun _ => ?_)
    (refine wGo ?_; ((conv => arg 5; whnf); repeat ((first | (with_reducible refine wT ?_) | (with_reducible refine wF ?_) | (with_reducible refine wO (by kernel_rfl) ?_)); refine wGo ?_; (conv => arg 5; whnf))))
    refine wN ⟨by omega, by omega⟩ ?_
    (refine wGo ?_; ((conv => arg 5; whnf); repeat ((first | (with_reducible refine wT ?_) | (with_reducible refine wF ?_) | (with_reducible refine wO (by kernel_rfl) ?_)); refine wGo ?_; (conv => arg 5; whnf))))
    refine wN (by omega) ?_
    (refine wGo ?_; ((conv => arg 5; whnf); repeat ((first | (with_reducible refine wT ?_) | (with_reducible refine wF ?_) | (with_reducible refine wO (by kernel_rfl) ?_)); refine wGo ?_; (conv => arg 5; whnf))))
    (refine wP _ _ (call_op rfl (entersB_of Try.func15 (by kernel_rfl)) rfl (back_spec (A.back (ms.getD (0 + ((j : Int) - 1).toNat) 0)) (ms.getD (0 + ((j : Int) - 1).toNat) 0) (by rw [hb1]; omega) rfl rfl)) ?_; ((conv => arg 5; whnf); repeat ((first | (with_reducible refine wT ?_) | (with_reducible refine wF ?_) | (with_reducible refine wO (by kernel_rfl) ?_)); refine wGo ?_; (conv => arg 5; whnf))))
    refine wD <| cutG <| Tri.cond rfl (fun h => absurd h (by rw [decide_eq_true hn2]; decide)) (fun _ => Tri.skip <| blockN <| cutG <| Tri.of Try.mixed Try.T_ok ?_)
    (refine wBegin ?_; ((conv => arg 5; whnf); repeat ((first | (with_reducible refine wT ?_) | (with_reducible refine wF ?_) | (with_reducible refine wO (by kernel_rfl) ?_)); refine wGo ?_; (conv => arg 5; whnf))))
    refine wD <| loopN ⟨⟨(j - 1, (A.back (ms.getD (0 + ((j : Int) - 1).toNat) 0)).back (ms.getD (0 + ((j : Int) - 1).toNat) 0)), by simp only; omega, by simp only [hb2]; omega, fun q hq => by
      simp only at hq ⊢
      rw [hb2, hix]
      exact marks_le hms (by omega) (by omega)⟩, by simp only; omega, ?_⟩
    exact Ent.ren [0, 1, 2, 3, 4, 5] (by decide) rfl (hC0 _ rfl rfl) hC1 rfl ⟨rfl, rfl, rfl, rfl, rfl, congrArg (fun n : Int => some (XV.int .i64 n)) hwj, trivial⟩
      ⟨⟨_, rfl, rfl⟩, ⟨_, rfl, rfl⟩, ⟨_, rfl, rfl, rfl⟩, ⟨_, rfl, rfl, rfl, Nat.le_refl _, fun _ _ => rfl⟩, trivial⟩
  (refine wGo ?_; ((conv => arg 5; whnf); repeat ((first | (with_reducible refine wT ?_) | (with_reducible refine wF ?_) | (with_reducible refine wO (by kernel_rfl) ?_)); refine wGo ?_; (conv => arg 5; whnf))))
  have h3' : i < l.length := by simp only [decide_eq_true_eq] at h3; omega
  refine wD <| cutG <| Tri.seq <| Tri.block <| Tri.seq ?_
  (refine Tri.cut 1 Try.mixed Try.T_ok ?_; ((conv => arg 5; whnf); repeat ((first | (with_reducible refine wT ?_) | (with_reducible refine wF ?_) | (with_reducible refine wO (by kernel_rfl) ?_)); refine wGo ?_; (conv => arg 5; whnf))))
  refine wD <| cutG <| Tri.block ?_
  refine Tri.loop (α := { y : Nat × List Nat // y.1 ≤ cuts.length ∧ marksOK (runN l i).steps.length y.2 ∧ y.2.length ≤ i * cuts.length + y.1 }) (fun y => nestsSt l cuts i y.1.2 (some (XV.int .i64 y.1.1))) (fun y => cuts.length - y.1.1) ⟨(0, ms), Nat.zero_le _, hms, hml⟩ ?_ ?_
  · exact Ent.ren [0, 1, 2, 3, 4, 5] (by decide) rfl (hC0 _ rfl rfl) hC1 rfl ⟨rfl, rfl, rfl, rfl, rfl, rfl, rfl, rfl, rfl, trivial⟩
      ⟨⟨_, rfl, rfl, rfl, fun _ _ => rfl⟩, ⟨_, rfl, rfl, rfl, fun _ _ => rfl⟩, ⟨_, rfl, rfl⟩, ⟨_, rfl, rfl⟩, ⟨_, rfl, rfl, rfl⟩, ⟨_, rfl, rfl, rfl, Nat.le_refl _, fun _ _ => rfl⟩, trivial⟩
  rintro ⟨⟨k, ms'⟩, hk, hms', hml'⟩
  simp only at hk hms' hml' ⊢
  (refine Tri.cut 1 Try.mixed Try.T_ok ?_; ((conv => arg 5; whnf); repeat ((first | (with_reducible refine wT ?_) | (with_reducible refine wF ?_) | (with_reducible refine wO (by kernel_rfl) ?_)); refine wGo ?_; (conv => arg 5; whnf))))
  refine wC (fun h4 => ?_) (fun h4 => ?_)
  case refine_2 =>
    (refine wGo ?_; ((conv => arg 5; whnf); repeat ((first | (with_reducible refine wT ?_) | (with_reducible refine wF ?_) | (with_reducible refine wO (by kernel_rfl) ?_)); refine wGo ?_; (conv => arg 5; whnf))))
    have hwi : IntKind.i64.wrap ((i : Int) + 1) = ((i + 1 : Nat) : Int) := by rw [wrap_i64 (by omega) (by omega)]; omega
    have hlen : (runN l i).steps.length < 1000000 := by have := runN_len l i; omega
    have hgi : l.getD (0 + ((i : Nat) : Int).toNat) default = l.getD i default := by simp
    have hk' : k = cuts.length := by simp only [decide_eq_false_iff_not] at h4; omega
    have hml2 : ms'.length ≤ (i + 1) * cuts.length := by rw [Nat.add_mul, Nat.one_mul]; omega
    refine wD <| cutE <| loopX <| blockX <| cutG ?_
    (refine Tri.cut 1 Try.mixed Try.T_ok ?_; ((conv => arg 5; whnf); repeat ((first | (with_reducible refine wT ?_) | (with_reducible refine wF ?_) | (with_reducible refine wO (by kernel_rfl) ?_)); refine wGo ?_; (conv => arg 5; whnf))))
    refine wN ⟨by omega, by omega⟩ ?_
    (refine wGo ?_; ((conv => arg 5; whnf); repeat ((first | (with_reducible refine wT ?_) | (with_reducible refine wF ?_) | (with_reducible refine wO (by kernel_rfl) ?_)); refine wGo ?_; (conv => arg 5; whnf))))
    refine wN (by omega) ?_
    (refine wGo ?_; ((conv => arg 5; whnf); repeat ((first | (with_reducible refine wT ?_) | (with_reducible refine wF ?_) | (with_reducible refine wO (by kernel_rfl) ?_)); refine wGo ?_; (conv => arg 5; whnf))))
    refine wD <| cutG <| Tri.cond rfl (fun h5 => ?_) (fun h5 => ?_)
    · have hstep : runN l (i + 1) = (runN l i).add (l.getD (0 + ((i : Nat) : Int).toNat) default).p (l.getD (0 + ((i : Nat) : Int).toNat) default).c := by
        simp only [runN, step1]
        rw [← hgi, if_pos (show evenB _ = true from h5)]
      refine Tri.of Try.mixed Try.T_ok ?_
      (refine wBegin ?_; ((conv => arg 5; whnf); repeat ((first | (with_reducible refine wT ?_) | (with_reducible refine wF ?_) | (with_reducible refine wO (by kernel_rfl) ?_)); refine wGo ?_; (conv => arg 5; whnf))))
      refine wN ⟨by omega, by omega⟩ ?_
      (refine wGo ?_; ((conv => arg 5; whnf); repeat ((first | (with_reducible refine wT ?_) | (with_reducible refine wF ?_) | (with_reducible refine wO (by kernel_rfl) ?_)); refine wGo ?_; (conv => arg 5; whnf))))
      refine wN (by omega) ?_
      (refine wGo ?_; ((conv => arg 5; whnf); repeat ((first | (with_reducible refine wT ?_) | (with_reducible refine wF ?_) | (with_reducible refine wO (by kernel_rfl) ?_)); refine wGo ?_; (conv => arg 5; whnf))))
      refine wN ⟨by omega, by omega⟩ ?_
      (refine wGo ?_; ((conv => arg 5; whnf); repeat ((first | (with_reducible refine wT ?_) | (with_reducible refine wF ?_) | (with_reducible refine wO (by kernel_rfl) ?_)); refine wGo ?_; (conv => arg 5; whnf))))
      refine wN (by omega) ?_
      (refine wGo ?_; ((conv => arg 5; whnf); repeat ((first | (with_reducible refine wT ?_) | (with_reducible refine wF ?_) | (with_reducible refine wO (by kernel_rfl) ?_)); refine wGo ?_; (conv => arg 5; whnf))))
      (refine wP _ _ (call_op rfl (entersB_of Try.func11 (by kernel_rfl)) rfl (lawCoin_spec (l.getD (0 + ((i : Nat) : Int).toNat) default).c _ _)) ?_; ((conv => arg 5; whnf); repeat ((first | (with_reducible refine wT ?_) | (with_reducible refine wF ?_) | (with_reducible refine wO (by kernel_rfl) ?_)); refine wGo ?_; (conv => arg 5; whnf))))
      (refine wP _ _ (call_op rfl (entersB_of Try.func10 (by kernel_rfl)) rfl (uadd_spec (runN l i) (l.getD (0 + ((i : Nat) : Int).toNat) default).p (l.getD (0 + ((i : Nat) : Int).toNat) default).c hlen rfl rfl)) ?_; ((conv => arg 5; whnf); repeat ((first | (with_reducible refine wT ?_) | (with_reducible refine wF ?_) | (with_reducible refine wO (by kernel_rfl) ?_)); refine wGo ?_; (conv => arg 5; whnf))))
      refine wN ⟨by omega, by omega⟩ ?_
      (refine wGo ?_; ((conv => arg 5; whnf); repeat ((first | (with_reducible refine wT ?_) | (with_reducible refine wF ?_) | (with_reducible refine wO (by kernel_rfl) ?_)); refine wGo ?_; (conv => arg 5; whnf))))
      refine wN (by omega) ?_
      (refine wGo ?_; ((conv => arg 5; whnf); repeat ((first | (with_reducible refine wT ?_) | (with_reducible refine wF ?_) | (with_reducible refine wO (by kernel_rfl) ?_)); refine wGo ?_; (conv => arg 5; whnf))))
      refine wN ⟨by omega, by omega⟩ ?_
      (refine wGo ?_; ((conv => arg 5; whnf); repeat ((first | (with_reducible refine wT ?_) | (with_reducible refine wF ?_) | (with_reducible refine wO (by kernel_rfl) ?_)); refine wGo ?_; (conv => arg 5; whnf))))
      refine wN (by omega) ?_
      (refine wGo ?_; ((conv => arg 5; whnf); repeat ((first | (with_reducible refine wT ?_) | (with_reducible refine wF ?_) | (with_reducible refine wO (by kernel_rfl) ?_)); refine wGo ?_; (conv => arg 5; whnf))))
      (refine wP _ _ (call_op rfl (entersB_of Try.func11 (by kernel_rfl)) rfl (lawCoin_spec (l.getD (0 + ((i : Nat) : Int).toNat) default).c _ _)) ?_; ((conv => arg 5; whnf); repeat ((first | (with_reducible refine wT ?_) | (with_reducible refine wF ?_) | (with_reducible refine wO (by kernel_rfl) ?_)); refine wGo ?_; (conv => arg 5; whnf))))
      (refine wP _ _ (call_op rfl (entersB_of Try.func10 (by kernel_rfl)) rfl (uadd_spec (runN l i) (l.getD (0 + ((i : Nat) : Int).toNat) default).p (l.getD (0 + ((i : Nat) : Int).toNat) default).c hlen rfl rfl)) ?_; ((conv => arg 5; whnf); repeat ((first | (with_reducible refine wT ?_) | (with_reducible refine wF ?_) | (with_reducible refine wO (by kernel_rfl) ?_)); refine wGo ?_; (conv => arg 5; whnf))))
      refine wD <| blockN <| cutG <| Tri.of Try.mixed Try.T_ok ?_
      (refine wBegin ?_; ((conv => arg 5; whnf); repeat ((first | (with_reducible refine wT ?_) | (with_reducible refine wF ?_) | (with_reducible refine wO (by kernel_rfl) ?_)); refine wGo ?_; (conv => arg 5; whnf))))
      refine wD <| loopN ⟨⟨(i + 1, ms'), h3', hms'.mono (step1_len _ _).1, hml2⟩, by simp only; omega, ?_⟩
      exact Ent.ren [0, 1, 2, 3, 4, 5] (by decide) rfl (hC0 _ rfl rfl) hC1 rfl ⟨rfl, rfl, rfl, rfl, rfl, rfl, rfl, congrArg (fun n : Int => some (XV.int .i64 n)) hwi, trivial⟩
        ⟨⟨_, rfl, rfl, rfl, fun _ _ => rfl⟩, ⟨_, rfl, rfl, rfl, fun _ _ => rfl⟩, ⟨_, rfl, congrArg usetP hstep.symm⟩, ⟨_, rfl, congrArg usetP hstep.symm⟩, ⟨_, rfl, rfl, rfl⟩, ⟨_, rfl, rfl, rfl, Nat.le_refl _, fun _ _ => rfl⟩, trivial⟩
    · have hstep : runN l (i + 1) = (runN l i).spend (l.getD (0 + ((i : Nat) : Int).toNat) default).p := by
        simp only [runN, step1]
        rw [← hgi, if_neg (by rw [show evenB _ = false from h5]; simp)]
      refine Tri.of Try.mixed Try.T_ok ?_
      (refine wBegin ?_; ((conv => arg 5; whnf); repeat ((first | (with_reducible refine wT ?_) | (with_reducible refine wF ?_) | (with_reducible refine wO (by kernel_rfl) ?_)); refine wGo ?_; (conv => arg 5; whnf))))
      refine wN ⟨by omega, by omega⟩ ?_
      (refine wGo ?_; ((conv => arg 5; whnf); repeat ((first | (with_reducible refine wT ?_) | (with_reducible refine wF ?_) | (with_reducible refine wO (by kernel_rfl) ?_)); refine wGo ?_; (conv => arg 5; whnf))))
      refine wN (by omega) ?_
      (refine wGo ?_; ((conv => arg 5; whnf); repeat ((first | (with_reducible refine wT ?_) | (with_reducible refine wF ?_) | (with_reducible refine wO (by kernel_rfl) ?_)); refine wGo ?_; (conv => arg 5; whnf))))
      (refine wP _ _ (call_op rfl (entersB_of Try.func12 (by kernel_rfl)) rfl (spend_spec (runN l i) (l.getD (0 + ((i : Nat) : Int).toNat) default).p hlen rfl rfl)) ?_; ((conv => arg 5; whnf); repeat ((first | (with_reducible refine wT ?_) | (with_reducible refine wF ?_) | (with_reducible refine wO (by kernel_rfl) ?_)); refine wGo ?_; (conv => arg 5; whnf))))
      refine wN ⟨by omega, by omega⟩ ?_
      (refine wGo ?_; ((conv => arg 5; whnf); repeat ((first | (with_reducible refine wT ?_) | (with_reducible refine wF ?_) | (with_reducible refine wO (by kernel_rfl) ?_)); refine wGo ?_; (conv => arg 5; whnf))))
      refine wN (by omega) ?_
      (refine wGo ?_; ((conv => arg 5; whnf); repeat ((first | (with_reducible refine wT ?_) | (with_reducible refine wF ?_) | (with_reducible refine wO (by kernel_rfl) ?_)); refine wGo ?_; (conv => arg 5; whnf))))
      (refine wP _ _ (call_op rfl (entersB_of Try.func12 (by kernel_rfl)) rfl (spend_spec (runN l i) (l.getD (0 + ((i : Nat) : Int).toNat) default).p hlen rfl rfl)) ?_; ((conv => arg 5; whnf); repeat ((first | (with_reducible refine wT ?_) | (with_reducible refine wF ?_) | (with_reducible refine wO (by kernel_rfl) ?_)); refine wGo ?_; (conv => arg 5; whnf))))
      refine wD <| blockN <| cutG <| Tri.of Try.mixed Try.T_ok ?_
      (refine wBegin ?_; ((conv => arg 5; whnf); repeat ((first | (with_reducible refine wT ?_) | (with_reducible refine wF ?_) | (with_reducible refine wO (by kernel_rfl) ?_)); refine wGo ?_; (conv => arg 5; whnf))))
      refine wD <| loopN ⟨⟨(i + 1, ms'), h3', hms'.mono (step1_len _ _).1, hml2⟩, by simp only; omega, ?_⟩
      exact Ent.ren [0, 1, 2, 3, 4, 5] (by decide) rfl (hC0 _ rfl rfl) hC1 rfl ⟨rfl, rfl, rfl, rfl, rfl, rfl, rfl, congrArg (fun n : Int => some (XV.int .i64 n)) hwi, trivial⟩
        ⟨⟨_, rfl, rfl, rfl, fun _ _ => rfl⟩, ⟨_, rfl, rfl, rfl, fun _ _ => rfl⟩, ⟨_, rfl, congrArg usetP hstep.symm⟩, ⟨_, rfl, congrArg usetP hstep.symm⟩, ⟨_, rfl, rfl, rfl⟩, ⟨_, rfl, rfl, rfl, Nat.le_refl _, fun _ _ => rfl⟩, trivial⟩
  (refine wGo ?_; ((conv => arg 5; whnf); repeat ((first | (with_reducible refine wT ?_) | (with_reducible refine wF ?_) | (with_reducible refine wO (by kernel_rfl) ?_)); refine wGo ?_; (conv => arg 5; whnf))))
  have h4' : k < cuts.length := by simp only [decide_eq_true_eq] at h4; omega
  refine wD <| cutG <| Tri.seq <| Tri.block ?_
  (refine Tri.cut 1 Try.mixed Try.T_ok ?_; ((conv => arg 5; whnf); repeat ((first | (with_reducible refine wT ?_) | (with_reducible refine wF ?_) | (with_reducible refine wO (by kernel_rfl) ?_)); refine wGo ?_; (conv => arg 5; whnf))))
  refine wN ⟨by omega, by omega⟩ ?_
  (refine wGo ?_; ((conv => arg 5; whnf); repeat ((first | (with_reducible refine wT ?_) | (with_reducible refine wF ?_) | (with_reducible refine wO (by kernel_rfl) ?_)); refine wGo ?_; (conv => arg 5; whnf))))
  refine wN (by omega) ?_
  (refine wGo ?_; ((conv => arg 5; whnf); repeat ((first | (with_reducible refine wT ?_) | (with_reducible refine wF ?_) | (with_reducible refine wO (by kernel_rfl) ?_)); refine wGo ?_; (conv => arg 5; whnf))))
  refine wN (by decide) ?_
  (refine wGo ?_; ((conv => arg 5; whnf); repeat ((first | (with_reducible refine wT ?_) | (with_reducible refine wF ?_) | (with_reducible refine wO (by kernel_rfl) ?_)); refine wGo ?_; (conv => arg 5; whnf))))
  have hwk : IntKind.i64.wrap ((k : Int) + 1) = ((k + 1 : Nat) : Int) := by rw [wrap_i64 (by omega) (by omega)]; omega
  refine wD <| cutG <| Tri.cond rfl (fun h5 => ?_) (fun h5 => ?_)
  · refine Tri.of Try.mixed Try.T_ok ?_
    (refine wBegin ?_; ((conv => arg 5; whnf); repeat ((first | (with_reducible refine wT ?_) | (with_reducible refine wF ?_) | (with_reducible refine wO (by kernel_rfl) ?_)); refine wGo ?_; (conv => arg 5; whnf))))
    (refine wP _ _ (call_op rfl (entersB_of Try.func9 (by kernel_rfl)) rfl (mark_spec (runN l i) rfl rfl)) ?_; ((conv => arg 5; whnf); repeat ((first | (with_reducible refine wT ?_) | (with_reducible refine wF ?_) | (with_reducible refine wO (by kernel_rfl) ?_)); refine wGo ?_; (conv => arg 5; whnf))))
    have hml400 : ms'.length ≤ 410 := by
      have := Nat.mul_le_mul hi hc10
      omega
    have hmsl : ms'.length + 1 = (ms' ++ [(runN l i).steps.length]).length := by simp
    have hA : ms'.length + 1 ≤ maxLen := by simp only [maxLen]; omega
    have hB : (ms'.length + 1) * 8 ≤ 140737488355328 := by omega
    (refine wP _ _ (append1_op Try.T_ok rfl rfl rfl rfl [.int .i64 ((runN l i).steps.length : Int)] rfl rfl rfl (Nat.le_refl _) rfl rfl rfl rfl rfl hA hB) ?_; ((conv => arg 5; whnf); repeat ((first | (with_reducible refine wT ?_) | (with_reducible refine wF ?_) | (with_reducible refine wO (by kernel_rfl) ?_)); refine wGo ?_; (conv => arg 5; whnf))))
    refine wD <| blockN <| cutG <| Tri.of Try.mixed Try.T_ok ?_
    (refine wBegin ?_; ((conv => arg 5; whnf); repeat ((first | (with_reducible refine wT ?_) | (with_reducible refine wF ?_) | (with_reducible refine wO (by kernel_rfl) ?_)); refine wGo ?_; (conv => arg 5; whnf))))
    refine wD <| loopN ⟨⟨(k + 1, ms' ++ [(runN l i).steps.length]), h4', hms'.snoc, by simp only [List.length_append, List.length_singleton]; omega⟩, by simp only; omega, ?_⟩
    exact Ent.ren [0, 1, 2, 3, 4, 22] (by decide) rfl (hC0 _ rfl rfl) hC1 rfl ⟨rfl, rfl, rfl, rfl, rfl, rfl, congrArg (fun n => some (XV.sv (.slc 22 1 0 n))) hmsl, rfl, congrArg (fun n : Int => some (XV.int .i64 n)) hwk, trivial⟩
      ⟨⟨_, rfl, rfl, rfl, fun _ _ => rfl⟩, ⟨_, rfl, rfl, rfl, fun _ _ => rfl⟩, ⟨_, rfl, rfl⟩, ⟨_, rfl, rfl⟩, ⟨_, rfl, rfl, rfl⟩, ⟨_, rfl, rfl, rfl, by simp, fun j hj => marks_snoc ms' _ j (by simpa using hj)⟩, trivial⟩
  · refine Tri.skip <| blockN <| cutG <| Tri.of Try.mixed Try.T_ok ?_
    (refine wBegin ?_; ((conv => arg 5; whnf); repeat ((first | (with_reducible refine wT ?_) | (with_reducible refine wF ?_) | (with_reducible refine wO (by kernel_rfl) ?_)); refine wGo ?_; (conv => arg 5; whnf))))
    refine wD <| loopN ⟨⟨(k + 1, ms'), h4', hms', by simp only; omega⟩, by simp only; omega, ?_⟩
    exact Ent.ren [0, 1, 2, 3, 4, 5] (by decide) rfl (hC0 _ rfl rfl) hC1 rfl ⟨rfl, rfl, rfl, rfl, rfl, rfl, rfl, rfl, congrArg (fun n : Int => some (XV.int .i64 n)) hwk, trivial⟩
      ⟨⟨_, rfl, rfl, rfl, fun _ _ => rfl⟩, ⟨_, rfl, rfl, rfl, fun _ _ => rfl⟩, ⟨_, rfl, rfl⟩, ⟨_, rfl, rfl⟩, ⟨_, rfl, rfl, rfl⟩, ⟨_, rfl, rfl, rfl, Nat.le_refl _, fun _ _ => rfl⟩, trivial⟩
end Go.Proofs.Ytfdmlpdhngmbiaa
