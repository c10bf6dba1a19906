/- The reference's coins: one put in at its place, one taken out. -/
import Derived.Test.YtfdmlpdhngmbiaaUj
namespace Go.Proofs.Ytfdmlpdhngmbiaa
open Go.Sx

theorem posIn_le (p : Pt) : ∀ l : List Pt, posIn p l ≤ l.length
  | [] => Nat.le_refl _
  | q :: r => by
    simp only [posIn]
    split
    · have := posIn_le p r; simp; omega
    · simp

theorem insF {E : Type} (cells : E → List Value) (dflt : E) (l : List E) (k : Nat) (hk : k ≤ l.length) (x : E) (i : Nat) (hi : i < l.length + 1) :
    joinF (snocF (joinF (fun _ => []) 0 (fun q => cells (l.getD (0 + q) dflt))) (0 + k) (cells x)) (0 + k + 1) (fun q => cells (l.getD (0 + k + q) dflt)) i = cells ((l.take k ++ x :: l.drop k).getD i dflt) := by
  simp only [joinF, snocF, nblt, Nat.zero_add]
  by_cases h1 : i < k
  · have h2 : i < k + 1 := by omega
    have h3 : ¬ i < 0 := by omega
    simp only [h1, h2, h3, decide_true, decide_false, cond_true, cond_false, Nat.sub_zero]
    have : (l.take k ++ x :: l.drop k)[i]? = l[i]? := by
      rw [List.getElem?_append_left (by rw [List.length_take]; omega), List.getElem?_take, if_pos h1]
    simp [List.getD_eq_getElem?_getD, this]
  · by_cases h2 : i < k + 1
    · have h4 : i = k := by omega
      subst h4
      simp only [h2, Nat.lt_irrefl, decide_true, decide_false, cond_true, cond_false]
      have : (l.take i ++ x :: l.drop i)[i]? = some x := by
        rw [List.getElem?_append_right (by rw [List.length_take]; omega), List.length_take]
        have : i - min i l.length = 0 := by omega
        rw [this]; rfl
      simp [List.getD_eq_getElem?_getD, this]
    · simp only [h2, decide_false, cond_false]
      have : (l.take k ++ x :: l.drop k)[i]? = l[k + (i - (k + 1))]? := by
        rw [List.getElem?_append_right (by rw [List.length_take]; omega), List.length_take]
        have : i - min k l.length = (i - (k + 1)) + 1 := by omega
        rw [this, List.getElem?_cons_succ, List.getElem?_drop]
      simp [List.getD_eq_getElem?_getD, this]

def RC.okB (R : RC) (p : Pt) (c : Coin) : Bool := !(R.isAt p) && !(decide (p.no.toInt < 0)) && !(decide (255 < p.no.toInt)) && !(decide (c.amt.toInt < 1)) && !(decide (1125899906842624 < c.amt.toInt)) && !(decide (IntKind.i64.wrap (1125899906842624 - c.amt.toInt) < R.sumN R.C.length))
def RC.add1 (R : RC) (p : Pt) (c : Coin) : RC := ⟨R.P.take (R.pos p) ++ p :: R.P.drop (R.pos p), R.C.take (R.pos p) ++ c :: R.C.drop (R.pos p)⟩
def RC.add (R : RC) (p : Pt) (c : Coin) : RC := if R.okB p c = true then R.add1 p c else R

theorem RC.ends {C : Ctx} {T : TyTab} {rs : List ResultVar} {X X' : XV} {e : Exit} {slots : List (Option XV)} {mem : Mem} {nx : Nat} {R0 : RC} (R : RC) {i1 i2 m1 m2 n1 n2 : Nat} {f g : Nat → List Value} (he : e = .normal ∨ e = .ret)
    (k0 : mem.get 0 = some (.cells 55 [.slc i1 9 0 m1, .slc i2 11 0 m2])) (k1 : mem.get i1 = some (.vec 36 9 n1 f)) (k2 : mem.get i2 = some (.vec 40 11 n2 g))
    (hids : (Nat.beq 0 i1 || Nat.beq 0 i2 || Nat.beq i1 i2) = false) (hr : resX T ⟨slots, (0, .abs (rcP R)) :: mem.dels [0, i1, i2], nx⟩ rs = some X') (hX : X' = X) (hR : R = R0) (hm1 : m1 = R.P.length) (hm2 : m2 = R.C.length) (hl1 : R.P.length ≤ n1) (hl2 : R.C.length ≤ n2)
    (hf : ∀ i, i < R.P.length → f i = (R.P.getD i default).cells) (hg : ∀ i, i < R.C.length → g i = (R.C.getD i default).cells) : Sx.Ends C T rs 1 1 ⟨X, [(0, .abs (rcP R0))], none⟩ e ⟨slots, mem, nx⟩ := by
  subst hX hR
  refine ⟨he, _, RC.shuts R 0 k0 k1 k2 hids hm1 hm2 hl1 hl2 hf hg, hr, fun i ch h => ?_, fun i ch h => by cases h⟩
  simp only [Mem.get, nbeq] at h
  by_cases hk : 0 = i
  · subst hk
    simp only [decide_true, cond_true, Option.some.injEq] at h
    exact ⟨by omega, by rw [← h]; rfl⟩
  · simp [hk] at h

set_option maxHeartbeats 2000000 in
set_option maxRecDepth 100000 in
theorem rcAdd_spec (R : RC) (p : Pt) (c : Coin) (hPC : R.P.length = R.C.length) (hlen : R.P.length < 1000000) {M : Mem} {c0 d : Nat} (hM : M.get c0 = some (.abs (rcP R))) (hd : Nat.beq d c0 = false) : CallSpec Try.prog 18 [.one (.ptr c0 0 0 0), p.cv, c.cv] M d { v := XV.bool (R.okB p c), upd := [(c0, .abs (rcP (R.add p c)))], wr := [c0] } [c0] := by
  refine spec_obj Try.T_ok Try.func18 rfl [p.cv, c.cv] (XV.bool (R.okB p c)) rfl rfl hM hd (fun C _ => ?_)
  refine RC.opens R 0 rfl ?_
  have hpl : R.pos p ≤ R.P.length := posIn_le p R.P
  (refine Tri.cut 3 Try.mixed Try.T_ok ?_; ((conv => arg 5; whnf); repeat ((first | (with_reducible refine wT ?_) | (with_reducible refine wF ?_) | (with_reducible refine wO (by kernel_rfl) ?_)); refine wGo ?_; (conv => arg 5; whnf))))
  (refine wP _ _ (call_op rfl (entersB_of Try.func28 (by kernel_rfl)) rfl (rcAt_spec R p hlen rfl rfl rfl rfl rfl)) ?_; ((conv => arg 5; whnf); repeat ((first | (with_reducible refine wT ?_) | (with_reducible refine wF ?_) | (with_reducible refine wO (by kernel_rfl) ?_)); refine wGo ?_; (conv => arg 5; whnf))))
  refine wC (fun h1 => ?_) (fun h1 => ?_)
  · (refine wGo ?_; ((conv => arg 5; whnf); repeat ((first | (with_reducible refine wT ?_) | (with_reducible refine wF ?_) | (with_reducible refine wO (by kernel_rfl) ?_)); refine wGo ?_; (conv => arg 5; whnf))))
    refine wD <| cutR (RC.ends R (.inr rfl) rfl rfl rfl rfl rfl ?_ ?_ rfl rfl (Nat.le_refl _) (Nat.le_refl _) (fun _ _ => rfl) (fun _ _ => rfl))
    · simp [RC.okB, h1]
    · simp [RC.add, RC.okB, h1]
  (refine wGo ?_; ((conv => arg 5; whnf); repeat ((first | (with_reducible refine wT ?_) | (with_reducible refine wF ?_) | (with_reducible refine wO (by kernel_rfl) ?_)); refine wGo ?_; (conv => arg 5; whnf))))
  refine wC (fun h2 => ?_) (fun h2 => ?_)
  · (refine wGo ?_; ((conv => arg 5; whnf); repeat ((first | (with_reducible refine wT ?_) | (with_reducible refine wF ?_) | (with_reducible refine wO (by kernel_rfl) ?_)); refine wGo ?_; (conv => arg 5; whnf))))
    refine wD <| cutR (RC.ends R (.inr rfl) rfl rfl rfl rfl rfl ?_ ?_ rfl rfl (Nat.le_refl _) (Nat.le_refl _) (fun _ _ => rfl) (fun _ _ => rfl))
    · simp [RC.okB, h2]
    · simp [RC.add, RC.okB, h2]
  (refine wGo ?_; ((conv => arg 5; whnf); repeat ((first | (with_reducible refine wT ?_) | (with_reducible refine wF ?_) | (with_reducible refine wO (by kernel_rfl) ?_)); refine wGo ?_; (conv => arg 5; whnf))))
  refine wC (fun h3 => ?_) (fun h3 => ?_)
  · (refine wGo ?_; ((conv => arg 5; whnf); repeat ((first | (with_reducible refine wT ?_) | (with_reducible refine wF ?_) | (with_reducible refine wO (by kernel_rfl) ?_)); refine wGo ?_; (conv => arg 5; whnf))))
    refine wD <| cutR (RC.ends R (.inr rfl) rfl rfl rfl rfl rfl ?_ ?_ rfl rfl (Nat.le_refl _) (Nat.le_refl _) (fun _ _ => rfl) (fun _ _ => rfl))
    · simp [RC.okB, h3]
    · simp [RC.add, RC.okB, h3]
  (refine wGo ?_; ((conv => arg 5; whnf); repeat ((first | (with_reducible refine wT ?_) | (with_reducible refine wF ?_) | (with_reducible refine wO (by kernel_rfl) ?_)); refine wGo ?_; (conv => arg 5; whnf))))
  refine wC (fun h4 => ?_) (fun h4 => ?_)
  · (refine wGo ?_; ((conv => arg 5; whnf); repeat ((first | (with_reducible refine wT ?_) | (with_reducible refine wF ?_) | (with_reducible refine wO (by kernel_rfl) ?_)); refine wGo ?_; (conv => arg 5; whnf))))
    refine wD <| cutR (RC.ends R (.inr rfl) rfl rfl rfl rfl rfl ?_ ?_ rfl rfl (Nat.le_refl _) (Nat.le_refl _) (fun _ _ => rfl) (fun _ _ => rfl))
    · simp [RC.okB, h4]
    · simp [RC.add, RC.okB, h4]
  (refine wGo ?_; ((conv => arg 5; whnf); repeat ((first | (with_reducible refine wT ?_) | (with_reducible refine wF ?_) | (with_reducible refine wO (by kernel_rfl) ?_)); refine wGo ?_; (conv => arg 5; whnf))))
  refine wC (fun h5 => ?_) (fun h5 => ?_)
  · (refine wGo ?_; ((conv => arg 5; whnf); repeat ((first | (with_reducible refine wT ?_) | (with_reducible refine wF ?_) | (with_reducible refine wO (by kernel_rfl) ?_)); refine wGo ?_; (conv => arg 5; whnf))))
    refine wD <| cutR (RC.ends R (.inr rfl) rfl rfl rfl rfl rfl ?_ ?_ rfl rfl (Nat.le_refl _) (Nat.le_refl _) (fun _ _ => rfl) (fun _ _ => rfl))
    · simp [RC.okB, h5]
    · simp [RC.add, RC.okB, h5]
  (refine wGo ?_; ((conv => arg 5; whnf); repeat ((first | (with_reducible refine wT ?_) | (with_reducible refine wF ?_) | (with_reducible refine wO (by kernel_rfl) ?_)); refine wGo ?_; (conv => arg 5; whnf))))
  (refine wP _ _ (call_op rfl (entersB_of Try.func29 (by kernel_rfl)) rfl (rcTotal_spec R (hPC ▸ hlen) rfl rfl rfl rfl rfl)) ?_; ((conv => arg 5; whnf); repeat ((first | (with_reducible refine wT ?_) | (with_reducible refine wF ?_) | (with_reducible refine wO (by kernel_rfl) ?_)); refine wGo ?_; (conv => arg 5; whnf))))
  refine wC (fun h6 => ?_) (fun h6 => ?_)
  · (refine wGo ?_; ((conv => arg 5; whnf); repeat ((first | (with_reducible refine wT ?_) | (with_reducible refine wF ?_) | (with_reducible refine wO (by kernel_rfl) ?_)); refine wGo ?_; (conv => arg 5; whnf))))
    refine wD <| cutR (RC.ends R (.inr rfl) rfl rfl rfl rfl rfl ?_ ?_ rfl rfl (Nat.le_refl _) (Nat.le_refl _) (fun _ _ => rfl) (fun _ _ => rfl))
    · simp [RC.okB, h6]
    · simp [RC.add, RC.okB, h6]
  (refine wGo ?_; ((conv => arg 5; whnf); repeat ((first | (with_reducible refine wT ?_) | (with_reducible refine wF ?_) | (with_reducible refine wO (by kernel_rfl) ?_)); refine wGo ?_; (conv => arg 5; whnf))))
  have hok : R.okB p c = true := by simp only [RC.okB, h1, h2, h3, h4, h5, h6]; rfl
  refine wD <| cutG <| Tri.of Try.mixed Try.T_ok ?_
  (refine wBegin ?_; ((conv => arg 5; whnf); repeat ((first | (with_reducible refine wT ?_) | (with_reducible refine wF ?_) | (with_reducible refine wO (by kernel_rfl) ?_)); refine wGo ?_; (conv => arg 5; whnf))))
  refine wN ⟨by omega, by omega⟩ ?_
  (refine wGo ?_; ((conv => arg 5; whnf); repeat ((first | (with_reducible refine wT ?_) | (with_reducible refine wF ?_) | (with_reducible refine wO (by kernel_rfl) ?_)); refine wGo ?_; (conv => arg 5; whnf))))
  have hto : ((R.pos p : Nat) : Int).toNat = R.pos p := rfl
  have a1 : 0 + ((R.pos p : Nat) : Int).toNat ≤ maxLen := by simp only [maxLen]; omega
  have a2 : (0 + ((R.pos p : Nat) : Int).toNat) * 16 ≤ 140737488355328 := by omega
  have b1 : 0 + ((R.pos p : Nat) : Int).toNat + 1 ≤ maxLen := by simp only [maxLen]; omega
  have b2 : (0 + ((R.pos p : Nat) : Int).toNat + 1) * 16 ≤ 140737488355328 := by omega
  (refine wP _ _ (append_op Try.T_ok rfl rfl rfl rfl rfl [2] (old_nil rfl _ _ _ (fun _ => [])) (new_vec rfl rfl (by omega) rfl) rfl (fun _ _ => rfl) a1 a2) ?_; ((conv => arg 5; whnf); repeat ((first | (with_reducible refine wT ?_) | (with_reducible refine wF ?_) | (with_reducible refine wO (by kernel_rfl) ?_)); refine wGo ?_; (conv => arg 5; whnf))))
  (refine wP _ _ (append1_op Try.T_ok rfl rfl rfl rfl p.cells rfl rfl rfl (Nat.le_refl _) rfl rfl rfl rfl rfl b1 b2) ?_; ((conv => arg 5; whnf); repeat ((first | (with_reducible refine wT ?_) | (with_reducible refine wF ?_) | (with_reducible refine wO (by kernel_rfl) ?_)); refine wGo ?_; (conv => arg 5; whnf))))
  refine wN ⟨by omega, by omega⟩ ?_
  (refine wGo ?_; ((conv => arg 5; whnf); repeat ((first | (with_reducible refine wT ?_) | (with_reducible refine wF ?_) | (with_reducible refine wO (by kernel_rfl) ?_)); refine wGo ?_; (conv => arg 5; whnf))))
  have e1 : 0 + ((R.pos p : Nat) : Int).toNat + 1 + (R.P.length - ((R.pos p : Nat) : Int).toNat) ≤ maxLen := by simp only [maxLen]; omega
  have e2 : (0 + ((R.pos p : Nat) : Int).toNat + 1 + (R.P.length - ((R.pos p : Nat) : Int).toNat)) * 16 ≤ 140737488355328 := by omega
  (refine wP _ _ (append_op Try.T_ok rfl rfl rfl rfl rfl [57, 2] (old_vec rfl rfl (Nat.le_refl _) rfl) (new_vec rfl rfl (by omega) rfl) rfl (fun _ _ => rfl) e1 e2) ?_; ((conv => arg 5; whnf); repeat ((first | (with_reducible refine wT ?_) | (with_reducible refine wF ?_) | (with_reducible refine wO (by kernel_rfl) ?_)); refine wGo ?_; (conv => arg 5; whnf))))
  refine wN ⟨by omega, by omega⟩ ?_
  (refine wGo ?_; ((conv => arg 5; whnf); repeat ((first | (with_reducible refine wT ?_) | (with_reducible refine wF ?_) | (with_reducible refine wO (by kernel_rfl) ?_)); refine wGo ?_; (conv => arg 5; whnf))))
  have c2 : (0 + ((R.pos p : Nat) : Int).toNat) * 32 ≤ 140737488355328 := by omega
  have d2 : (0 + ((R.pos p : Nat) : Int).toNat + 1) * 32 ≤ 140737488355328 := by omega
  have f1 : 0 + ((R.pos p : Nat) : Int).toNat + 1 + (R.C.length - ((R.pos p : Nat) : Int).toNat) ≤ maxLen := by simp only [maxLen]; omega
  have f2 : (0 + ((R.pos p : Nat) : Int).toNat + 1 + (R.C.length - ((R.pos p : Nat) : Int).toNat)) * 32 ≤ 140737488355328 := by omega
  (refine wP _ _ (append_op Try.T_ok rfl rfl rfl rfl rfl [3] (old_nil rfl _ _ _ (fun _ => [])) (new_vec rfl rfl (by omega) rfl) rfl (fun _ _ => rfl) a1 c2) ?_; ((conv => arg 5; whnf); repeat ((first | (with_reducible refine wT ?_) | (with_reducible refine wF ?_) | (with_reducible refine wO (by kernel_rfl) ?_)); refine wGo ?_; (conv => arg 5; whnf))))
  (refine wP _ _ (append1_op Try.T_ok rfl rfl rfl rfl c.cells rfl rfl rfl (Nat.le_refl _) rfl rfl rfl rfl rfl b1 d2) ?_; ((conv => arg 5; whnf); repeat ((first | (with_reducible refine wT ?_) | (with_reducible refine wF ?_) | (with_reducible refine wO (by kernel_rfl) ?_)); refine wGo ?_; (conv => arg 5; whnf))))
  refine wN ⟨by omega, by omega⟩ ?_
  (refine wGo ?_; ((conv => arg 5; whnf); repeat ((first | (with_reducible refine wT ?_) | (with_reducible refine wF ?_) | (with_reducible refine wO (by kernel_rfl) ?_)); refine wGo ?_; (conv => arg 5; whnf))))
  (refine wP _ _ (append_op Try.T_ok rfl rfl rfl rfl rfl [78, 3] (old_vec rfl rfl (Nat.le_refl _) rfl) (new_vec rfl rfl (by omega) rfl) rfl (fun _ _ => rfl) f1 f2) ?_; ((conv => arg 5; whnf); repeat ((first | (with_reducible refine wT ?_) | (with_reducible refine wF ?_) | (with_reducible refine wO (by kernel_rfl) ?_)); refine wGo ?_; (conv => arg 5; whnf))))
  have hkC : R.pos p ≤ R.C.length := by omega
  refine wD (RC.ends (R.add1 p c) (.inr rfl) rfl rfl rfl rfl rfl ?_ ?_ ?_ ?_ ?_ ?_ ?_ ?_)
  · rw [hok]
  · rw [RC.add, if_pos hok]
  · simp only [RC.add1, List.length_append, List.length_take, List.length_cons, List.length_drop]; omega
  · simp only [RC.add1, List.length_append, List.length_take, List.length_cons, List.length_drop]; omega
  · simp only [RC.add1, List.length_append, List.length_take, List.length_cons, List.length_drop]; omega
  · simp only [RC.add1, List.length_append, List.length_take, List.length_cons, List.length_drop]; omega
  · intro i hi
    simp only [RC.add1, List.length_append, List.length_take, List.length_cons, List.length_drop] at hi
    exact insF Pt.cells default R.P (R.pos p) hpl p i (by omega)
  · intro i hi
    simp only [RC.add1, List.length_append, List.length_take, List.length_cons, List.length_drop] at hi
    exact insF Coin.cells default R.C (R.pos p) hkC c i (by omega)
end Go.Proofs.Ytfdmlpdhngmbiaa
