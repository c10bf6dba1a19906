/- The reference's coins: one taken out. -/
import Derived.Test.YtfdmlpdhngmbiaaUk
namespace Go.Proofs.Ytfdmlpdhngmbiaa
open Go.Sx

theorem delF {E : Type} (cells : E → List Value) (dflt : E) (l : List E) (k : Nat) (hk : k < l.length) (i : Nat) :
    joinF (joinF (fun _ => []) 0 (fun q => cells (l.getD (0 + q) dflt))) (0 + k) (fun q => cells (l.getD (0 + (k + 1) + q) dflt)) i = cells ((l.take k ++ l.drop (k + 1)).getD i dflt) := by
  simp only [joinF, nblt, Nat.zero_add]
  by_cases h1 : i < k
  · have h3 : ¬ i < 0 := by omega
    simp only [h1, h3, decide_true, decide_false, cond_true, cond_false, Nat.sub_zero]
    have : (l.take k ++ l.drop (k + 1))[i]? = l[i]? := by
      rw [List.getElem?_append_left (by rw [List.length_take]; omega), List.getElem?_take, if_pos h1]
    simp [List.getD_eq_getElem?_getD, this]
  · simp only [h1, decide_false, cond_false]
    have : (l.take k ++ l.drop (k + 1))[i]? = l[k + 1 + (i - k)]? := by
      rw [List.getElem?_append_right (by rw [List.length_take]; omega), List.length_take, List.getElem?_drop]
      congr 1
      omega
    simp [List.getD_eq_getElem?_getD, this]

def RC.spend1 (R : RC) (p : Pt) : RC := ⟨R.P.take (R.pos p) ++ R.P.drop (R.pos p + 1), R.C.take (R.pos p) ++ R.C.drop (R.pos p + 1)⟩
def RC.spend (R : RC) (p : Pt) : RC := if R.isAt p = true then R.spend1 p else R
def RC.get (R : RC) (p : Pt) : Coin := if R.isAt p = true then R.C.getD (R.pos p) default else coin0

set_option maxHeartbeats 2000000 in
set_option maxRecDepth 100000 in
theorem rcSpend_spec (R : RC) (p : Pt) (hPC : R.P.length = R.C.length) (hlen : R.P.length < 1000000) {M : Mem} {c0 d : Nat} (hM : M.get c0 = some (.abs (rcP R))) (hd : Nat.beq d c0 = false) : CallSpec Try.prog 19 [.one (.ptr c0 0 0 0), p.cv] M d { v := .tup [(R.get p).cv, .one (.raw (.bool (R.isAt p)))], upd := [(c0, .abs (rcP (R.spend p)))], wr := [c0] } [c0] := by
  refine spec_obj Try.T_ok Try.func19 rfl [p.cv] (.tup [(R.get p).cv, .one (.raw (.bool (R.isAt p)))]) rfl rfl hM hd (fun C _ => ?_)
  refine RC.opens R 0 rfl ?_
  have hpl : R.pos p ≤ R.P.length := posIn_le p R.P
  (refine Tri.cut 3 Try.mixed Try.T_ok ?_; ((conv => arg 5; whnf); repeat ((first | (with_reducible refine wT ?_) | (with_reducible refine wF ?_) | (with_reducible refine wO (by kernel_rfl) ?_)); refine wGo ?_; (conv => arg 5; whnf))))
  (refine wP _ _ (call_op rfl (entersB_of Try.func28 (by kernel_rfl)) rfl (rcAt_spec R p hlen rfl rfl rfl rfl rfl)) ?_; ((conv => arg 5; whnf); repeat ((first | (with_reducible refine wT ?_) | (with_reducible refine wF ?_) | (with_reducible refine wO (by kernel_rfl) ?_)); refine wGo ?_; (conv => arg 5; whnf))))
  refine wC (fun h1 => ?_) (fun h1 => ?_)
  · (refine wGo ?_; ((conv => arg 5; whnf); repeat ((first | (with_reducible refine wT ?_) | (with_reducible refine wF ?_) | (with_reducible refine wO (by kernel_rfl) ?_)); refine wGo ?_; (conv => arg 5; whnf))))
    simp only [Bool.not_eq_true'] at h1
    refine wD <| cutR (RC.ends R (.inr rfl) rfl rfl rfl rfl rfl ?_ ?_ rfl rfl (Nat.le_refl _) (Nat.le_refl _) (fun _ _ => rfl) (fun _ _ => rfl))
    · simp only [RC.get, h1]; rfl
    · simp [RC.spend, h1]
  (refine wGo ?_; ((conv => arg 5; whnf); repeat ((first | (with_reducible refine wT ?_) | (with_reducible refine wF ?_) | (with_reducible refine wO (by kernel_rfl) ?_)); refine wGo ?_; (conv => arg 5; whnf))))
  simp only [Bool.not_eq_false'] at h1
  have hlt : R.pos p < R.P.length := by
    simp only [RC.isAt, Bool.and_eq_true, decide_eq_true_eq] at h1
    exact h1.1
  have hltC : R.pos p < R.C.length := by omega
  have hw : IntKind.i64.wrap (((R.pos p : Nat) : Int) + 1) = ((R.pos p + 1 : Nat) : Int) := by rw [wrap_i64 (by omega) (by omega)]; omega
  have hwn : (IntKind.i64.wrap (((R.pos p : Nat) : Int) + 1)).toNat = R.pos p + 1 := by rw [hw]; rfl
  refine wD <| cutG ?_
  (refine Tri.cut 1 Try.mixed Try.T_ok ?_; ((conv => arg 5; whnf); repeat ((first | (with_reducible refine wT ?_) | (with_reducible refine wF ?_) | (with_reducible refine wO (by kernel_rfl) ?_)); refine wGo ?_; (conv => arg 5; whnf))))
  refine wN ⟨by omega, by omega⟩ ?_
  (refine wGo ?_; ((conv => arg 5; whnf); repeat ((first | (with_reducible refine wT ?_) | (with_reducible refine wF ?_) | (with_reducible refine wO (by kernel_rfl) ?_)); refine wGo ?_; (conv => arg 5; whnf))))
  refine wN (by omega) ?_
  (refine wGo ?_; ((conv => arg 5; whnf); repeat ((first | (with_reducible refine wT ?_) | (with_reducible refine wF ?_) | (with_reducible refine wO (by kernel_rfl) ?_)); refine wGo ?_; (conv => arg 5; whnf))))
  refine wD <| cutG ?_
  have a1 : 0 + ((R.pos p : Nat) : Int).toNat ≤ maxLen := by simp only [maxLen]; omega
  have a2 : (0 + ((R.pos p : Nat) : Int).toNat) * 16 ≤ 140737488355328 := by omega
  have a3 : (0 + ((R.pos p : Nat) : Int).toNat) * 32 ≤ 140737488355328 := by omega
  have e1 : 0 + ((R.pos p : Nat) : Int).toNat + (R.P.length - (IntKind.i64.wrap (((R.pos p : Nat) : Int) + 1)).toNat) ≤ maxLen := by simp only [maxLen]; omega
  have e2 : (0 + ((R.pos p : Nat) : Int).toNat + (R.P.length - (IntKind.i64.wrap (((R.pos p : Nat) : Int) + 1)).toNat)) * 16 ≤ 140737488355328 := by omega
  have f1 : 0 + ((R.pos p : Nat) : Int).toNat + (R.C.length - (IntKind.i64.wrap (((R.pos p : Nat) : Int) + 1)).toNat) ≤ maxLen := by simp only [maxLen]; omega
  have f2 : (0 + ((R.pos p : Nat) : Int).toNat + (R.C.length - (IntKind.i64.wrap (((R.pos p : Nat) : Int) + 1)).toNat)) * 32 ≤ 140737488355328 := by omega
  (refine Tri.cut 1 Try.mixed Try.T_ok ?_; ((conv => arg 5; whnf); repeat ((first | (with_reducible refine wT ?_) | (with_reducible refine wF ?_) | (with_reducible refine wO (by kernel_rfl) ?_)); refine wGo ?_; (conv => arg 5; whnf))))
  refine wN ⟨by omega, by omega⟩ ?_
  (refine wGo ?_; ((conv => arg 5; whnf); repeat ((first | (with_reducible refine wT ?_) | (with_reducible refine wF ?_) | (with_reducible refine wO (by kernel_rfl) ?_)); refine wGo ?_; (conv => arg 5; whnf))))
  (refine wP _ _ (append_op Try.T_ok rfl rfl rfl rfl rfl [2] (old_nil rfl _ _ _ (fun _ => [])) (new_vec rfl rfl (by omega) rfl) rfl (fun _ _ => rfl) a1 a2) ?_; ((conv => arg 5; whnf); repeat ((first | (with_reducible refine wT ?_) | (with_reducible refine wF ?_) | (with_reducible refine wO (by kernel_rfl) ?_)); refine wGo ?_; (conv => arg 5; whnf))))
  refine wN ⟨by omega, by omega⟩ ?_
  (refine wGo ?_; ((conv => arg 5; whnf); repeat ((first | (with_reducible refine wT ?_) | (with_reducible refine wF ?_) | (with_reducible refine wO (by kernel_rfl) ?_)); refine wGo ?_; (conv => arg 5; whnf))))
  (refine wP _ _ (append_op Try.T_ok rfl rfl rfl rfl rfl [33, 2] (old_vec rfl rfl (Nat.le_refl _) rfl) (new_vec rfl rfl (by omega) rfl) rfl (fun _ _ => rfl) e1 e2) ?_; ((conv => arg 5; whnf); repeat ((first | (with_reducible refine wT ?_) | (with_reducible refine wF ?_) | (with_reducible refine wO (by kernel_rfl) ?_)); refine wGo ?_; (conv => arg 5; whnf))))
  refine wD <| cutG <| Tri.of Try.mixed Try.T_ok ?_
  (refine wBegin ?_; ((conv => arg 5; whnf); repeat ((first | (with_reducible refine wT ?_) | (with_reducible refine wF ?_) | (with_reducible refine wO (by kernel_rfl) ?_)); refine wGo ?_; (conv => arg 5; whnf))))
  refine wN ⟨by omega, by omega⟩ ?_
  (refine wGo ?_; ((conv => arg 5; whnf); repeat ((first | (with_reducible refine wT ?_) | (with_reducible refine wF ?_) | (with_reducible refine wO (by kernel_rfl) ?_)); refine wGo ?_; (conv => arg 5; whnf))))
  (refine wP _ _ (append_op Try.T_ok rfl rfl rfl rfl rfl [3] (old_nil rfl _ _ _ (fun _ => [])) (new_vec rfl rfl (by omega) rfl) rfl (fun _ _ => rfl) a1 a3) ?_; ((conv => arg 5; whnf); repeat ((first | (with_reducible refine wT ?_) | (with_reducible refine wF ?_) | (with_reducible refine wO (by kernel_rfl) ?_)); refine wGo ?_; (conv => arg 5; whnf))))
  refine wN ⟨by omega, by omega⟩ ?_
  (refine wGo ?_; ((conv => arg 5; whnf); repeat ((first | (with_reducible refine wT ?_) | (with_reducible refine wF ?_) | (with_reducible refine wO (by kernel_rfl) ?_)); refine wGo ?_; (conv => arg 5; whnf))))
  (refine wP _ _ (append_op Try.T_ok rfl rfl rfl rfl rfl [52, 3] (old_vec rfl rfl (Nat.le_refl _) rfl) (new_vec rfl rfl (by omega) rfl) rfl (fun _ _ => rfl) f1 f2) ?_; ((conv => arg 5; whnf); repeat ((first | (with_reducible refine wT ?_) | (with_reducible refine wF ?_) | (with_reducible refine wO (by kernel_rfl) ?_)); refine wGo ?_; (conv => arg 5; whnf))))
  have hfn : (fun q => (R.P.getD (0 + (IntKind.i64.wrap (((R.pos p : Nat) : Int) + 1)).toNat + q) default).cells) = (fun q => (R.P.getD (0 + (R.pos p + 1) + q) default).cells) := by rw [hwn]
  have hfc : (fun q => (R.C.getD (0 + (IntKind.i64.wrap (((R.pos p : Nat) : Int) + 1)).toNat + q) default).cells) = (fun q => (R.C.getD (0 + (R.pos p + 1) + q) default).cells) := by rw [hwn]
  refine wD (RC.ends (R.spend1 p) (.inr rfl) rfl rfl rfl rfl rfl ?_ ?_ ?_ ?_ ?_ ?_ ?_ ?_)
  · have h0 : 0 + ((R.pos p : Nat) : Int).toNat = R.pos p := by omega
    simp only [RC.get, h1, if_true, h0]; rfl
  · rw [RC.spend, if_pos h1]
  · simp only [RC.spend1, List.length_append, List.length_take, List.length_drop]; omega
  · simp only [RC.spend1, List.length_append, List.length_take, List.length_drop]; omega
  · simp only [RC.spend1, List.length_append, List.length_take, List.length_drop]; omega
  · simp only [RC.spend1, List.length_append, List.length_take, List.length_drop]; omega
  · intro i _
    have := delF Pt.cells default R.P (R.pos p) hlt i
    rw [← hfn] at this
    exact this
  · intro i _
    have := delF Coin.cells default R.C (R.pos p) hltC i
    rw [← hfc] at this
    exact this
end Go.Proofs.Ytfdmlpdhngmbiaa
