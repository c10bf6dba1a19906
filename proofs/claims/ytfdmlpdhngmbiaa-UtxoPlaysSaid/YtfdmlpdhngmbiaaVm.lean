/- The law's Same: of two that tell the same it says so. -/
import Derived.Test.YtfdmlpdhngmbiaaVk
import Derived.Test.YtfdmlpdhngmbiaaVl
import Derived.Test.YtfdmlpdhngmbiaaVi
namespace Go.Proofs.Ytfdmlpdhngmbiaa
open Go.Sx

/-- Two objects come in, and go out. -/
theorem spec_obj2 {P : Program} {T : TyTab} {f : FuncId} {fn : Func} {c : Code} (hT : TabOK P T) (hf : P.funcs[f]? = some fn) (hb : fn.body = some c) {A B A' B' : AbsP} (X : XV) (hX : X.ok (fun _ => false) = true)
    {M : Mem} {c0 c1 d : Nat} (h0 : M.get c0 = some (.abs A)) (h1 : M.get c1 = some (.abs B)) (hne : (Nat.beq c0 c1 || Nat.beq d c0 || Nat.beq d c1) = false)
    (h : ∀ C : Ctx, C.n0 = 2 → Tri P C c ⟨slots0 fn.ntmps [.cv (.one (.ptr 0 0 0 0)), .cv (.one (.ptr 1 0 0 0))], [(0, .abs A), (1, .abs B)], 2⟩ (Sx.Ends C T fn.results.toList 2 2 ⟨X, [(0, .abs A'), (1, .abs B')], none⟩)) :
    CallSpec P f [.one (.ptr c0 0 0 0), .one (.ptr c1 0 0 0)] M d { v := X, upd := [(c0, .abs A'), (c1, .abs B')], wr := [c0, c1] } [c0, c1] := by
  simp only [Bool.or_eq_false_iff, nbeq, decide_eq_false_iff_not] at hne
  obtain ⟨⟨n1, n2⟩, n3⟩ := hne
  have get2 : ∀ (i : Nat) (x y ch : Chunk), Mem.get [(0, x), (1, y)] i = some ch → (i = 0 ∧ ch = x) ∨ (i = 1 ∧ ch = y) := by
    intro i x y ch hi
    simp only [Mem.get, nbeq] at hi
    by_cases e0 : 0 = i
    · subst e0; simp at hi; exact .inl ⟨rfl, hi.symm⟩
    · by_cases e1 : 1 = i
      · subst e1; simp at hi; exact .inr ⟨rfl, hi.symm⟩
      · simp [e0, e1] at hi
  refine spec_of_text (ids := [c0, c1]) (rids := []) (Xl := [.one (.ptr 0 0 0 0), .one (.ptr 1 0 0 0)]) (M0 := [(0, .abs A), (1, .abs B)]) (out := ⟨X, [(0, .abs A'), (1, .abs B')], none⟩) (k1 := 2) (n0 := 2) hT hf hb (by simp [n1]) rfl rfl (by simp [n2, n3]) rfl (fun i ch hi => ?_) (fun i ch hi => ?_) (fun i ch hi => by cases hi) (XV.ok_mono (fun _ h => by cases h) hX) h rfl (XV.ren_closed hX).symm rfl (fun q ch hq => ?_)
  · rcases get2 _ _ _ _ hi with ⟨rfl, rfl⟩ | ⟨rfl, rfl⟩
    · exact ⟨by decide, rfl, fun h => by omega, fun ci hci => by simp at hci; subst hci; exact h0⟩
    · exact ⟨by decide, rfl, fun h => by omega, fun ci hci => by simp at hci; subst hci; exact h1⟩
  · rcases get2 _ _ _ _ hi with ⟨rfl, rfl⟩ | ⟨rfl, rfl⟩ <;> exact ⟨rfl, rfl⟩
  · simp only [Mem.get, nbeq] at hq
    by_cases e0 : c0 = q
    · subst e0; simp at hq; subst hq; exact .inl ⟨0, rfl, rfl⟩
    · by_cases e1 : c1 = q
      · subst e1; simp [e0] at hq; subst hq; exact .inl ⟨1, rfl, rfl⟩
      · simp [e0, e1] at hq

def sameSt (S : USet) (R : RC) (i : Nat) : St :=
  ⟨[some (XV.sv (.ptr 0 0 0 0)), some (XV.sv (.ptr 1 0 0 0)), none, none, some (XV.bool false), some (XV.sv (.slc 2 9 0 S.coins.length)), some (XV.int .i64 i)] ++ List.replicate 72 none,
   [(0, .abs (usetP S)), (1, R.root 3 4), (2, .vec 36 9 S.coins.length fun i => (S.points.getD i default).cells), (3, R.vecP), (4, R.vecC)], 5⟩

set_option maxHeartbeats 4000000 in
set_option maxRecDepth 100000 in
theorem same_spec (S : USet) (R : RC) (hT : Twin S R) (hlen : S.coins.length ≤ 1000) {M : Mem} {c0 c1 d : Nat} (h0 : M.get c0 = some (.abs (usetP S))) (h1 : M.get c1 = some (.abs (rcP R))) (hne : (Nat.beq c0 c1 || Nat.beq d c0 || Nat.beq d c1) = false) :
    CallSpec Try.prog 20 [.one (.ptr c0 0 0 0), .one (.ptr c1 0 0 0)] M d { v := XV.bool true, upd := [(c0, .abs (usetP S)), (c1, .abs (rcP R))], wr := [c0, c1] } [c0, c1] := by
  obtain ⟨zs, hz⟩ := hT
  have hzl : zs.length = S.coins.length := hz.perm.length_eq
  have hPl : R.P.length = S.coins.length := by rw [hz.len.1, hzl]
  have hCl : R.C.length = S.coins.length := by rw [hz.len.2, hzl]
  refine spec_obj2 Try.T_ok Try.func20 rfl _ rfl h0 h1 hne (fun C hC => ?_)
  have hC0 : ∀ ids : List Nat, ids[0]? = some 0 → ids[1]? = some 1 → ∀ i, i < C.n0 → ids[i]? = some i := fun ids e0 e1 i hi => by
    rw [hC] at hi
    match i, hi with
    | 0, _ => exact e0
    | 1, _ => exact e1
  (refine Tri.cut 2 Try.mixed Try.T_ok ?_; ((conv => arg 5; whnf); repeat ((first | (with_reducible refine wT ?_) | (with_reducible refine wF ?_) | (with_reducible refine wO (by kernel_rfl) ?_)); refine wGo ?_; (conv => arg 5; whnf))))
  (refine wP _ _ (call_op rfl (entersB_of Try.func21 (by kernel_rfl)) rfl (points_spec S (by omega) rfl)) ?_; ((conv => arg 5; whnf); repeat ((first | (with_reducible refine wT ?_) | (with_reducible refine wF ?_) | (with_reducible refine wO (by kernel_rfl) ?_)); refine wGo ?_; (conv => arg 5; whnf))))
  refine wD <| cutG ?_
  refine RC.opens R 1 rfl ?_
  (refine Tri.cut 1 Try.mixed Try.T_ok ?_; ((conv => arg 5; whnf); repeat ((first | (with_reducible refine wT ?_) | (with_reducible refine wF ?_) | (with_reducible refine wO (by kernel_rfl) ?_)); refine wGo ?_; (conv => arg 5; whnf))))
  refine wC (fun h => absurd h (by rw [hPl]; simp)) (fun _ => ?_)
  (refine wGo ?_; ((conv => arg 5; whnf); repeat ((first | (with_reducible refine wT ?_) | (with_reducible refine wF ?_) | (with_reducible refine wO (by kernel_rfl) ?_)); refine wGo ?_; (conv => arg 5; whnf))))
  (refine wP _ _ (call_op rfl (entersB_of Try.func14 (by kernel_rfl)) rfl (len_spec S rfl rfl)) ?_; ((conv => arg 5; whnf); repeat ((first | (with_reducible refine wT ?_) | (with_reducible refine wF ?_) | (with_reducible refine wO (by kernel_rfl) ?_)); refine wGo ?_; (conv => arg 5; whnf))))
  refine wC (fun h => absurd h (by rw [hPl]; simp)) (fun _ => ?_)
  (refine wGo ?_; ((conv => arg 5; whnf); repeat ((first | (with_reducible refine wT ?_) | (with_reducible refine wF ?_) | (with_reducible refine wO (by kernel_rfl) ?_)); refine wGo ?_; (conv => arg 5; whnf))))
  (refine wP _ _ (call_op rfl (entersB_of Try.func13 (by kernel_rfl)) rfl (total_spec S rfl rfl)) ?_; ((conv => arg 5; whnf); repeat ((first | (with_reducible refine wT ?_) | (with_reducible refine wF ?_) | (with_reducible refine wO (by kernel_rfl) ?_)); refine wGo ?_; (conv => arg 5; whnf))))
  (refine wP _ _ (call_op rfl (entersB_of Try.func29 (by kernel_rfl)) rfl (rcTotal_spec R (by omega) (i1 := 7) (i2 := 8) rfl rfl rfl rfl rfl)) ?_; ((conv => arg 5; whnf); repeat ((first | (with_reducible refine wT ?_) | (with_reducible refine wF ?_) | (with_reducible refine wO (by kernel_rfl) ?_)); refine wGo ?_; (conv => arg 5; whnf))))
  refine wC (fun h => absurd h (by rw [hz.sum]; simp)) (fun _ => ?_)
  (refine wGo ?_; ((conv => arg 5; whnf); repeat ((first | (with_reducible refine wT ?_) | (with_reducible refine wF ?_) | (with_reducible refine wO (by kernel_rfl) ?_)); refine wGo ?_; (conv => arg 5; whnf))))
  refine wD <| cutG <| Tri.seq ?_
  (refine Tri.cut 1 Try.mixed Try.T_ok ?_; ((conv => arg 5; whnf); repeat ((first | (with_reducible refine wT ?_) | (with_reducible refine wF ?_) | (with_reducible refine wO (by kernel_rfl) ?_)); refine wGo ?_; (conv => arg 5; whnf))))
  refine wD <| cutG <| Tri.block ?_
  refine Tri.loop (α := { i : Nat // i ≤ S.coins.length }) (fun i => sameSt S R i.1) (fun i => S.coins.length - i.1) ⟨0, Nat.zero_le _⟩ ?_ ?_
  · exact Ent.ren [0, 1, 4, 7, 8] (by decide) rfl (hC0 _ rfl rfl) (by rw [hC]; decide) rfl ⟨rfl, rfl, rfl, rfl, rfl, trivial⟩ ⟨⟨_, rfl, rfl⟩, ⟨_, rfl, rfl, rfl⟩, ⟨_, rfl, rfl, rfl, Nat.le_refl _, fun _ _ => rfl⟩, ⟨_, rfl, rfl, rfl, Nat.le_refl _, fun _ _ => rfl⟩, ⟨_, rfl, rfl, rfl, Nat.le_refl _, fun _ _ => rfl⟩, trivial⟩
  rintro ⟨i, hi⟩
  dsimp only
  (refine Tri.cut 1 Try.mixed Try.T_ok ?_; ((conv => arg 5; whnf); repeat ((first | (with_reducible refine wT ?_) | (with_reducible refine wF ?_) | (with_reducible refine wO (by kernel_rfl) ?_)); refine wGo ?_; (conv => arg 5; whnf))))
  refine wC (fun h3 => ?_) (fun h3 => ?_)
  case refine_2 =>
    (refine wGo ?_; ((conv => arg 5; whnf); repeat ((first | (with_reducible refine wT ?_) | (with_reducible refine wF ?_) | (with_reducible refine wO (by kernel_rfl) ?_)); refine wGo ?_; (conv => arg 5; whnf))))
    refine wD <| cutE <| loopX <| blockX <| cutG <| Tri.of Try.mixed Try.T_ok ?_
    (refine wBegin ?_; ((conv => arg 5; whnf); repeat ((first | (with_reducible refine wT ?_) | (with_reducible refine wF ?_) | (with_reducible refine wO (by kernel_rfl) ?_)); refine wGo ?_; (conv => arg 5; whnf))))
    refine wD ⟨.inr rfl, _, RC.shuts R 1 rfl rfl rfl rfl rfl rfl (Nat.le_refl _) (Nat.le_refl _) (fun _ _ => rfl) (fun _ _ => rfl), rfl, fun j ch hj => ?_, fun j ch hj => by cases hj⟩
    simp only [Mem.get, nbeq] at hj
    by_cases e0 : 0 = j
    · subst e0; simp at hj; subst hj; exact ⟨by decide, rfl⟩
    · by_cases e1 : 1 = j
      · subst e1; simp at hj; subst hj; exact ⟨by decide, rfl⟩
      · simp [e0, e1] at hj
  (refine wGo ?_; ((conv => arg 5; whnf); repeat ((first | (with_reducible refine wT ?_) | (with_reducible refine wF ?_) | (with_reducible refine wO (by kernel_rfl) ?_)); refine wGo ?_; (conv => arg 5; whnf))))
  have h3' : i < S.coins.length := by simp only [decide_eq_true_eq] at h3; omega
  have hwi : IntKind.i64.wrap ((i : Int) + 1) = ((i + 1 : Nat) : Int) := by rw [wrap_i64 (by omega) (by omega)]; omega
  have hgi : S.points.getD (0 + ((i : Nat) : Int).toNat) default = S.pt i := by simp [USet.pt]
  have hp : S.has (S.points.getD (0 + ((i : Nat) : Int).toNat) default) = true := by rw [hgi]; exact pt_has h3'
  have hPi : R.P.getD (0 + ((i : Nat) : Int).toNat) default = S.points.getD (0 + ((i : Nat) : Int).toNat) default := by rw [hz.points]
  have hCi : R.C.getD (0 + ((i : Nat) : Int).toNat) default = S.get (S.points.getD (0 + ((i : Nat) : Int).toNat) default) := by
    have ha := hz.at (i := i) (by omega)
    have e : (0 + ((i : Nat) : Int).toNat) = i := by omega
    rw [← hPi, e]
    unfold USet.get
    rw [ha.1, ha.2.2, ha.2.1]
    rfl
  refine wD <| cutG <| Tri.seq <| Tri.block <| Tri.of Try.mixed Try.T_ok ?_
  (refine wBegin ?_; ((conv => arg 5; whnf); repeat ((first | (with_reducible refine wT ?_) | (with_reducible refine wF ?_) | (with_reducible refine wO (by kernel_rfl) ?_)); refine wGo ?_; (conv => arg 5; whnf))))
  refine wN ⟨by omega, by omega⟩ ?_
  (refine wGo ?_; ((conv => arg 5; whnf); repeat ((first | (with_reducible refine wT ?_) | (with_reducible refine wF ?_) | (with_reducible refine wO (by kernel_rfl) ?_)); refine wGo ?_; (conv => arg 5; whnf))))
  refine wN (by omega) ?_
  (refine wGo ?_; ((conv => arg 5; whnf); repeat ((first | (with_reducible refine wT ?_) | (with_reducible refine wF ?_) | (with_reducible refine wO (by kernel_rfl) ?_)); refine wGo ?_; (conv => arg 5; whnf))))
  (refine wP _ _ (call_op rfl (entersB_of Try.func22 (by kernel_rfl)) rfl (get_there S (S.points.getD (0 + ((i : Nat) : Int).toNat) default) hp rfl rfl)) ?_; ((conv => arg 5; whnf); repeat ((first | (with_reducible refine wT ?_) | (with_reducible refine wF ?_) | (with_reducible refine wO (by kernel_rfl) ?_)); refine wGo ?_; (conv => arg 5; whnf))))
  refine wN ⟨by omega, by omega⟩ ?_
  (refine wGo ?_; ((conv => arg 5; whnf); repeat ((first | (with_reducible refine wT ?_) | (with_reducible refine wF ?_) | (with_reducible refine wO (by kernel_rfl) ?_)); refine wGo ?_; (conv => arg 5; whnf))))
  refine wN (by omega) ?_
  (refine wGo ?_; ((conv => arg 5; whnf); repeat ((first | (with_reducible refine wT ?_) | (with_reducible refine wF ?_) | (with_reducible refine wO (by kernel_rfl) ?_)); refine wGo ?_; (conv => arg 5; whnf))))
  refine wN ⟨by omega, by omega⟩ ?_
  (refine wGo ?_; ((conv => arg 5; whnf); repeat ((first | (with_reducible refine wT ?_) | (with_reducible refine wF ?_) | (with_reducible refine wO (by kernel_rfl) ?_)); refine wGo ?_; (conv => arg 5; whnf))))
  refine wN (by omega) ?_
  (refine wGo ?_; ((conv => arg 5; whnf); repeat ((first | (with_reducible refine wT ?_) | (with_reducible refine wF ?_) | (with_reducible refine wO (by kernel_rfl) ?_)); refine wGo ?_; (conv => arg 5; whnf))))
  (refine wP _ _ (neq_op ptE rfl (S.points.getD (0 + ((i : Nat) : Int).toNat) default) (R.P.getD (0 + ((i : Nat) : Int).toNat) default) rfl rfl) ?_; ((conv => arg 5; whnf); repeat ((first | (with_reducible refine wT ?_) | (with_reducible refine wF ?_) | (with_reducible refine wO (by kernel_rfl) ?_)); refine wGo ?_; (conv => arg 5; whnf))))
  refine wC (fun h => absurd h (by rw [hPi]; simp)) (fun _ => ?_)
  (refine wGo ?_; ((conv => arg 5; whnf); repeat ((first | (with_reducible refine wT ?_) | (with_reducible refine wF ?_) | (with_reducible refine wO (by kernel_rfl) ?_)); refine wGo ?_; (conv => arg 5; whnf))))
  refine wC (fun h => absurd h (by decide)) (fun _ => ?_)
  (refine wGo ?_; ((conv => arg 5; whnf); repeat ((first | (with_reducible refine wT ?_) | (with_reducible refine wF ?_) | (with_reducible refine wO (by kernel_rfl) ?_)); refine wGo ?_; (conv => arg 5; whnf))))
  refine wN ⟨by omega, by omega⟩ ?_
  (refine wGo ?_; ((conv => arg 5; whnf); repeat ((first | (with_reducible refine wT ?_) | (with_reducible refine wF ?_) | (with_reducible refine wO (by kernel_rfl) ?_)); refine wGo ?_; (conv => arg 5; whnf))))
  refine wN (by omega) ?_
  (refine wGo ?_; ((conv => arg 5; whnf); repeat ((first | (with_reducible refine wT ?_) | (with_reducible refine wF ?_) | (with_reducible refine wO (by kernel_rfl) ?_)); refine wGo ?_; (conv => arg 5; whnf))))
  (refine wP _ _ (call_op rfl (entersB_of Try.func11 (by kernel_rfl)) rfl (lawCoin_spec (R.C.getD (0 + ((i : Nat) : Int).toNat) default) _ _)) ?_; ((conv => arg 5; whnf); repeat ((first | (with_reducible refine wT ?_) | (with_reducible refine wF ?_) | (with_reducible refine wO (by kernel_rfl) ?_)); refine wGo ?_; (conv => arg 5; whnf))))
  (refine wP _ _ (neq_op coinE rfl (S.get (S.points.getD (0 + ((i : Nat) : Int).toNat) default)) (R.C.getD (0 + ((i : Nat) : Int).toNat) default) rfl rfl) ?_; ((conv => arg 5; whnf); repeat ((first | (with_reducible refine wT ?_) | (with_reducible refine wF ?_) | (with_reducible refine wO (by kernel_rfl) ?_)); refine wGo ?_; (conv => arg 5; whnf))))
  refine wC (fun h => absurd h (by rw [hCi]; simp)) (fun _ => ?_)
  (refine wGo ?_; ((conv => arg 5; whnf); repeat ((first | (with_reducible refine wT ?_) | (with_reducible refine wF ?_) | (with_reducible refine wO (by kernel_rfl) ?_)); refine wGo ?_; (conv => arg 5; whnf))))
  refine wD <| blockN <| Tri.of Try.mixed Try.T_ok ?_
  (refine wBegin ?_; ((conv => arg 5; whnf); repeat ((first | (with_reducible refine wT ?_) | (with_reducible refine wF ?_) | (with_reducible refine wO (by kernel_rfl) ?_)); refine wGo ?_; (conv => arg 5; whnf))))
  refine wD <| loopN ⟨⟨i + 1, h3'⟩, by simp only; omega, ?_⟩
  exact Ent.ren [0, 1, 2, 3, 4] (by decide) rfl (hC0 _ rfl rfl) (by rw [hC]; decide) rfl ⟨rfl, rfl, rfl, rfl, congrArg (fun n : Int => some (XV.int .i64 n)) hwi, trivial⟩ ⟨⟨_, rfl, rfl⟩, ⟨_, rfl, rfl, rfl⟩, ⟨_, rfl, rfl, rfl, Nat.le_refl _, fun _ _ => rfl⟩, ⟨_, rfl, rfl, rfl, Nat.le_refl _, fun _ _ => rfl⟩, ⟨_, rfl, rfl, rfl, Nat.le_refl _, fun _ _ => rfl⟩, trivial⟩
end Go.Proofs.Ytfdmlpdhngmbiaa
