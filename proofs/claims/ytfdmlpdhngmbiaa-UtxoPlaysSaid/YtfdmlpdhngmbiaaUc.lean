/- The contract of Back. -/
import Derived.Test.YtfdmlpdhngmbiaaUb
import Derived.Test.YtfdmlpdhngmbiaaSxT
namespace Go.Proofs.Ytfdmlpdhngmbiaa
open Go.Sx

theorem wrap_i64 {n : Int} (h1 : -9223372036854775808 ≤ n) (h2 : n < 9223372036854775808) : IntKind.i64.wrap n = n := by
  have e1 : IntKind.i64.bits = 64 := rfl
  have e2 : IntKind.i64.signed = true := rfl
  simp only [IntKind.wrap, e1, e2, Bool.true_and]
  split <;> rename_i h <;> simp only [ge_iff_le, decide_eq_true_eq] at h <;> omega

def USet.pop (S : USet) : USet :=
  if (S.steps.getD (S.steps.length - 1) default).added = true then (USet.mk S.coins S.steps.dropLast S.total).take (S.steps.getD (S.steps.length - 1) default).p (S.steps.getD (S.steps.length - 1) default).c
  else (USet.mk S.coins S.steps.dropLast S.total).put (S.steps.getD (S.steps.length - 1) default).p (S.steps.getD (S.steps.length - 1) default).c
def USet.backN : Nat → USet → USet
  | 0, S => S
  | k + 1, S => USet.backN k S.pop
theorem USet.pop_steps (S : USet) : S.pop.steps = S.steps.dropLast := by
  unfold USet.pop
  split <;> rfl
/-- Undone to n steps. -/
def USet.back (S : USet) (n : Nat) : USet := if n ≤ S.steps.length then USet.backN (S.steps.length - n) S else S

theorem drop_steps (l : List Stp) (i : Nat) (hi : i < l.dropLast.length) : (l.getD i default).cells = (l.dropLast.getD i default).cells := by
  simp only [List.length_dropLast] at hi
  have : l.dropLast[i]? = l[i]? := by
    rw [List.dropLast_eq_take, List.getElem?_take, if_pos (by omega)]
  simp [List.getD_eq_getElem?_getD, this]

def backSt (n : Nat) (x : USet) : St := ⟨[some (XV.sv (.ptr 0 0 0 0)), none, none, some (XV.sv (.ptr 1 0 0 0)), some (XV.bool false)] ++ List.replicate 61 none, [(0, .abs (usetP x)), (1, .cells 30 [.raw (.int .i64 n)])], 2⟩

set_option maxRecDepth 100000 in
theorem back_spec (S : USet) (n : Nat) (hlen : S.steps.length < 1000000) {M : Mem} {c0 d : Nat} (hM : M.get c0 = some (.abs (usetP S))) (hd : Nat.beq d c0 = false) : CallSpec Try.prog 15 [.one (.ptr c0 0 0 0), .agg [.raw (.int .i64 n)]] M d { v := XV.bool (decide (n ≤ S.steps.length)), upd := [(c0, .abs (usetP (S.back n)))], wr := [c0] } [c0] := by
  refine spec_obj Try.T_ok Try.func15 rfl [.agg [.raw (.int .i64 n)]] (XV.bool (decide (n ≤ S.steps.length))) rfl rfl hM hd (fun C hC => ?_)
  refine USet.opens S 0 rfl ?_
  (refine Tri.cut 2 Try.mixed Try.T_ok ?_; ((conv => arg 5; whnf); repeat ((first | (with_reducible refine wT ?_) | (with_reducible refine wF ?_) | (with_reducible refine wO (by kernel_rfl) ?_)); refine wGo ?_; (conv => arg 5; whnf))))
  refine wC (fun h1 => ?_) (fun h1 => ?_)
  · (refine wGo ?_; ((conv => arg 5; whnf); repeat ((first | (with_reducible refine wT ?_) | (with_reducible refine wF ?_) | (with_reducible refine wO (by kernel_rfl) ?_)); refine wGo ?_; (conv => arg 5; whnf))))
    have h1' : ¬ n ≤ S.steps.length := by simp only [decide_eq_true_eq] at h1; omega
    refine wD <| cutR (USet.ends S (.inr rfl) rfl rfl rfl rfl rfl ?_ ?_ rfl rfl (Nat.le_refl _) (fun _ _ => rfl))
    · simp [h1']
    · simp [USet.back, h1']
  (refine wGo ?_; ((conv => arg 5; whnf); repeat ((first | (with_reducible refine wT ?_) | (with_reducible refine wF ?_) | (with_reducible refine wO (by kernel_rfl) ?_)); refine wGo ?_; (conv => arg 5; whnf))))
  have hn : n ≤ S.steps.length := by simp only [decide_eq_false_iff_not] at h1; omega
  refine wD <| cutG (Tri.ent (USet.shuts S 0 rfl rfl rfl rfl rfl rfl (Nat.le_refl _) (fun _ _ => rfl)) (Tri.seq (Tri.block ?_)))
  refine Tri.loop (α := { x : USet // x.steps.length ≤ S.steps.length ∧ n ≤ x.steps.length ∧ USet.backN (x.steps.length - n) x = USet.backN (S.steps.length - n) S }) (fun x => backSt n x.1) (fun x => x.1.steps.length) ⟨S, Nat.le_refl _, hn, rfl⟩ ?_ ?_
  · exact Ent.ren [0, 4] (by decide) rfl (fun i hi => by rw [hC] at hi; match i, hi with | 0, _ => rfl) (by rw [hC]; decide) rfl ⟨rfl, rfl, rfl, trivial⟩ ⟨⟨_, rfl, rfl⟩, ⟨_, rfl, rfl, rfl⟩, trivial⟩
  rintro ⟨x, hx1, hx2, hx3⟩
  refine USet.opens x 0 rfl ?_
  (refine Tri.cut 1 Try.mixed Try.T_ok ?_; ((conv => arg 5; whnf); repeat ((first | (with_reducible refine wT ?_) | (with_reducible refine wF ?_) | (with_reducible refine wO (by kernel_rfl) ?_)); refine wGo ?_; (conv => arg 5; whnf))))
  refine wC (fun h2 => ?_) (fun h2 => ?_)
  case refine_2 =>
    (refine wGo ?_; ((conv => arg 5; whnf); repeat ((first | (with_reducible refine wT ?_) | (with_reducible refine wF ?_) | (with_reducible refine wO (by kernel_rfl) ?_)); refine wGo ?_; (conv => arg 5; whnf))))
    have h2' : x.steps.length = n := by simp only [decide_eq_false_iff_not] at h2; omega
    have hx : x = S.back n := by rw [USet.back, if_pos hn, ← hx3, h2', Nat.sub_self]; rfl
    refine wD <| cutE <| loopX <| blockX <| cutG <| Tri.of Try.mixed Try.T_ok ?_
    (refine wBegin ?_; ((conv => arg 5; whnf); repeat ((first | (with_reducible refine wT ?_) | (with_reducible refine wF ?_) | (with_reducible refine wO (by kernel_rfl) ?_)); refine wGo ?_; (conv => arg 5; whnf))))
    exact USet.ends x (.inr rfl) rfl rfl rfl rfl rfl (by rw [decide_eq_true hn]) hx rfl rfl (Nat.le_refl _) (fun _ _ => rfl)
  have h2' : n < x.steps.length := by simp only [decide_eq_true_eq] at h2; omega
  have hw : IntKind.i64.wrap ((x.steps.length : Int) - 1) = (x.steps.length : Int) - 1 := wrap_i64 (by omega) (by omega)
  have hi : 0 + (IntKind.i64.wrap ((x.steps.length : Int) - 1)).toNat = x.steps.length - 1 := by rw [hw]; omega
  (refine wGo ?_; ((conv => arg 5; whnf); repeat ((first | (with_reducible refine wT ?_) | (with_reducible refine wF ?_) | (with_reducible refine wO (by kernel_rfl) ?_)); refine wGo ?_; (conv => arg 5; whnf))))
  refine wD <| cutG <| Tri.block ?_
  (refine Tri.cut 3 Try.mixed Try.T_ok ?_; ((conv => arg 5; whnf); repeat ((first | (with_reducible refine wT ?_) | (with_reducible refine wF ?_) | (with_reducible refine wO (by kernel_rfl) ?_)); refine wGo ?_; (conv => arg 5; whnf))))
  refine wN ⟨by rw [hw]; omega, by rw [hw]; omega⟩ ?_
  (refine wGo ?_; ((conv => arg 5; whnf); repeat ((first | (with_reducible refine wT ?_) | (with_reducible refine wF ?_) | (with_reducible refine wO (by kernel_rfl) ?_)); refine wGo ?_; (conv => arg 5; whnf))))
  refine wN (by rw [hi]; omega) ?_
  (refine wGo ?_; ((conv => arg 5; whnf); repeat ((first | (with_reducible refine wT ?_) | (with_reducible refine wF ?_) | (with_reducible refine wO (by kernel_rfl) ?_)); refine wGo ?_; (conv => arg 5; whnf))))
  refine wN ⟨by rw [hw]; omega, by rw [hw]; omega⟩ ?_
  (refine wGo ?_; ((conv => arg 5; whnf); repeat ((first | (with_reducible refine wT ?_) | (with_reducible refine wF ?_) | (with_reducible refine wO (by kernel_rfl) ?_)); refine wGo ?_; (conv => arg 5; whnf))))
  have hsub : (IntKind.i64.wrap ((x.steps.length : Int) - 1)).toNat = (USet.mk x.coins x.steps.dropLast x.total).steps.length := by
    rw [hw]
    simp only [List.length_dropLast]
    omega
  have hpop : x.pop.steps.length = x.steps.length - 1 := by rw [USet.pop_steps, List.length_dropLast]
  have hs : x.steps.getD (0 + (IntKind.i64.wrap ((x.steps.length : Int) - 1)).toNat) default = x.steps.getD (x.steps.length - 1) default := by rw [hi]
  have hnext : USet.backN (x.pop.steps.length - n) x.pop = USet.backN (S.steps.length - n) S := by
    rw [hpop, ← hx3]
    have : x.steps.length - n = (x.steps.length - 1 - n) + 1 := by omega
    rw [this]
    rfl
  refine wD <| cutG (Tri.ent (USet.shuts (USet.mk x.coins x.steps.dropLast x.total) 0 rfl rfl rfl rfl hsub rfl (by simp) (drop_steps x.steps)) (Tri.cond (b := (x.steps.getD (0 + (IntKind.i64.wrap ((x.steps.length : Int) - 1)).toNat) default).added) rfl (fun h3 => ?_) (fun h3 => ?_)))
  · refine Tri.of Try.mixed Try.T_ok ?_
    (refine wBegin ?_; ((conv => arg 5; whnf); repeat ((first | (with_reducible refine wT ?_) | (with_reducible refine wF ?_) | (with_reducible refine wO (by kernel_rfl) ?_)); refine wGo ?_; (conv => arg 5; whnf))))
    (refine wP _ _ (call_op rfl (entersB_of Try.func27 (by kernel_rfl)) rfl (take_spec (USet.mk x.coins x.steps.dropLast x.total) (x.steps.getD (0 + (IntKind.i64.wrap ((x.steps.length : Int) - 1)).toNat) default).p (x.steps.getD (0 + (IntKind.i64.wrap ((x.steps.length : Int) - 1)).toNat) default).c rfl rfl)) ?_; ((conv => arg 5; whnf); repeat ((first | (with_reducible refine wT ?_) | (with_reducible refine wF ?_) | (with_reducible refine wO (by kernel_rfl) ?_)); refine wGo ?_; (conv => arg 5; whnf))))
    refine wD <| blockN <| loopN ⟨⟨x.pop, by omega, by omega, hnext⟩, by simp only [hpop]; omega, ?_⟩
    refine Ent.ren [0, 1] (by decide) rfl (fun i hi => by rw [hC] at hi; match i, hi with | 0, _ => rfl) (by rw [hC]; decide) rfl ⟨rfl, rfl, rfl, trivial⟩ ⟨⟨_, rfl, ?_⟩, ⟨_, rfl, rfl, rfl⟩, trivial⟩
    simp only [Chunk.ren, ChLe', ChLe]
    congr 1
    rw [hs] at h3 ⊢
    rw [USet.pop, if_pos h3]
  · refine Tri.of Try.mixed Try.T_ok ?_
    (refine wBegin ?_; ((conv => arg 5; whnf); repeat ((first | (with_reducible refine wT ?_) | (with_reducible refine wF ?_) | (with_reducible refine wO (by kernel_rfl) ?_)); refine wGo ?_; (conv => arg 5; whnf))))
    (refine wP _ _ (call_op rfl (entersB_of Try.func26 (by kernel_rfl)) rfl (put_spec (USet.mk x.coins x.steps.dropLast x.total) (x.steps.getD (0 + (IntKind.i64.wrap ((x.steps.length : Int) - 1)).toNat) default).p (x.steps.getD (0 + (IntKind.i64.wrap ((x.steps.length : Int) - 1)).toNat) default).c rfl rfl)) ?_; ((conv => arg 5; whnf); repeat ((first | (with_reducible refine wT ?_) | (with_reducible refine wF ?_) | (with_reducible refine wO (by kernel_rfl) ?_)); refine wGo ?_; (conv => arg 5; whnf))))
    refine wD <| blockN <| loopN ⟨⟨x.pop, by omega, by omega, hnext⟩, by simp only [hpop]; omega, ?_⟩
    refine Ent.ren [0, 1] (by decide) rfl (fun i hi => by rw [hC] at hi; match i, hi with | 0, _ => rfl) (by rw [hC]; decide) rfl ⟨rfl, rfl, rfl, trivial⟩ ⟨⟨_, rfl, ?_⟩, ⟨_, rfl, rfl, rfl⟩, trivial⟩
    simp only [Chunk.ren, ChLe', ChLe]
    congr 1
    rw [hs] at h3 ⊢
    rw [USet.pop, if_neg (by rw [h3]; simp)]
end Go.Proofs.Ytfdmlpdhngmbiaa
