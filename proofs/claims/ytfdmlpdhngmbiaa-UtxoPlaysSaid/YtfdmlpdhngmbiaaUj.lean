/- The reference's coins: a copy of its own. -/
import Derived.Test.YtfdmlpdhngmbiaaUi
namespace Go.Proofs.Ytfdmlpdhngmbiaa
open Go.Sx

/-- A function that works on one object and makes another one. -/
theorem spec_obj_made {P : Program} {T : TyTab} {f : FuncId} {fn : Func} {c : Code} (hT : TabOK P T) (hf : P.funcs[f]? = some fn) (hb : fn.body = some c) {A A' A2 : AbsP} (Xl : List CV) (i : Nat)
    (hXl : Xl.all (CV.ok fun _ => false) = true) {M : Mem} {c0 d : Nat} (hM : M.get c0 = some (.abs A)) (hd : Nat.beq d c0 = false)
    (h : ∀ C : Ctx, C.n0 = 1 → Tri P C c ⟨slots0 fn.ntmps (.cv (.one (.ptr 0 0 0 0)) :: Xl.map .cv), [(0, .abs A)], 1⟩ (Sx.Ends C T fn.results.toList 1 1 ⟨XV.sv (.ptr i 0 0 0), [(0, .abs A')], some (i, .abs A2)⟩)) :
    CallSpec P f (.one (.ptr c0 0 0 0) :: Xl) M d { v := XV.sv (.ptr d 0 0 0), upd := [(c0, .abs A'), (d, .abs A2)], wr := [c0] } [c0] := by
  have hd' : d ≠ c0 := by
    rw [nbeq] at hd
    simpa using hd
  have get1 : ∀ (k i : Nat) (x ch : Chunk), Mem.get [(k, x)] i = some ch → i = k ∧ ch = x := by
    intro k i x ch h
    simp only [Mem.get, nbeq] at h
    by_cases hk : k = i
    · simp only [hk, decide_true, cond_true, Option.some.injEq] at h; exact ⟨hk.symm, h.symm⟩
    · simp [hk] at h
  refine spec_of_text (ids := [c0]) (rids := []) (Xl := .one (.ptr 0 0 0 0) :: Xl) (M0 := [(0, .abs A)]) (out := ⟨XV.sv (.ptr i 0 0 0), [(0, .abs A')], some (i, .abs A2)⟩) hT hf hb (by simp) rfl rfl (k1 := 1) (n0 := 1) (by simpa using hd') ?_ (fun j ch hi => ?_) (fun j ch hi => ?_) (fun j ch hi => ?_) ?_ h ?_ ?_ rfl (fun q ch hc => ?_)
  · simp only [List.all_cons, Bool.and_eq_true]
    refine ⟨by simp [CV.ok, SV.ok], ?_⟩
    simp only [List.all_eq_true] at hXl ⊢
    exact fun s hs => CV.ok_mono (fun _ h => by cases h) (hXl s hs)
  · obtain ⟨rfl, rfl⟩ := get1 _ _ _ _ hi
    refine ⟨by simp, rfl, fun h => by simp at h, fun ci hci => ?_⟩
    simp at hci
    subst hci
    exact hM
  · obtain ⟨rfl, rfl⟩ := get1 _ _ _ _ hi
    exact ⟨rfl, rfl⟩
  · cases hi; exact ⟨rfl, rfl⟩
  · simp [XV.ok, CV.ok, SV.ok]
  · simp only [List.map_cons, CVs.ren_closed hXl]
    rfl
  · simp [XV.ren, CV.ren, SV.ren, renOut]
  · simp only [Mem.get, nbeq] at hc
    by_cases e0 : c0 = q
    · subst e0; simp at hc; subst hc; exact .inl ⟨0, rfl, rfl⟩
    · by_cases e1 : d = q
      · subst e1; simp [e0] at hc; subst hc; exact .inr ⟨rfl, i, rfl⟩
      · simp [e0, e1] at hc

theorem RC.opens {P : Program} {C : Ctx} {cd : Code} {slots : List (Option XV)} {mem : Mem} {nx : Nat} {Q : Exit → St → Prop} (R : RC) (c : Nat) (hc : mem.get c = some (.abs (rcP R)))
    (h : Tri P C cd ⟨slots, (c, R.root (nx + 1) (nx + 2)) :: (nx + 1, R.vecP) :: (nx + 2, R.vecC) :: mem.del c, nx + 3⟩ Q) : Tri P C cd ⟨slots, mem, nx⟩ Q :=
  Tri.opens (M := R.mem) (m := 3) (inv := True) (c := c) hc rfl fun _ => h

theorem RC.shuts {C : Ctx} {slots : List (Option XV)} {mem : Mem} {nx : Nat} (R : RC) (c : Nat) {i1 i2 m1 m2 n1 n2 : Nat} {f g : Nat → List Value}
    (k0 : mem.get c = some (.cells 55 [.slc i1 9 0 m1, .slc i2 11 0 m2])) (k1 : mem.get i1 = some (.vec 36 9 n1 f)) (k2 : mem.get i2 = some (.vec 40 11 n2 g))
    (hids : (Nat.beq c i1 || Nat.beq c i2 || Nat.beq i1 i2) = false) (hm1 : m1 = R.P.length) (hm2 : m2 = R.C.length) (hl1 : R.P.length ≤ n1) (hl2 : R.C.length ≤ n2) (hf : ∀ i, i < R.P.length → f i = (R.P.getD i default).cells) (hg : ∀ i, i < R.C.length → g i = (R.C.getD i default).cells) :
    Ent C ⟨slots, mem, nx⟩ ⟨slots, (c, .abs (rcP R)) :: mem.dels [c, i1, i2], nx⟩ := by
  subst hm1 hm2
  exact Ent.shut3 (S := ⟨slots, mem, nx⟩) (M := R.mem) (inv := True) hids trivial rfl rfl rfl rfl k0 k1 k2 rfl ⟨rfl, rfl⟩ ⟨rfl, rfl, hl1, hf⟩ ⟨rfl, rfl, hl2, hg⟩

theorem joinF_nil (f g : Nat → List Value) (i : Nat) : joinF f 0 g i = g i := by
  have : Nat.blt i 0 = false := by rw [nblt]; simp
  simp only [joinF, this, cond_false, Nat.sub_zero]

set_option maxRecDepth 100000 in
theorem rcCopy_spec (R : RC) (hP : R.P.length < 1000000) (hC' : R.C.length < 1000000) {M : Mem} {c0 d : Nat} (hM : M.get c0 = some (.abs (rcP R))) (hd : Nat.beq d c0 = false) : CallSpec Try.prog 17 [.one (.ptr c0 0 0 0)] M d { v := XV.sv (.ptr d 0 0 0), upd := [(c0, .abs (rcP R)), (d, .abs (rcP R))], wr := [c0] } [c0] := by
  refine spec_obj_made Try.T_ok Try.func17 rfl [] 16 rfl hM hd (fun C hC => ?_)
  refine RC.opens R 0 rfl ?_
  refine Tri.of Try.mixed Try.T_ok ?_
  have a1 : 0 + R.P.length ≤ maxLen := by simp only [maxLen]; omega
  have a2 : (0 + R.P.length) * 16 ≤ 140737488355328 := by omega
  have b1 : 0 + R.C.length ≤ maxLen := by simp only [maxLen]; omega
  have b2 : (0 + R.C.length) * 32 ≤ 140737488355328 := by omega
  (refine wBegin ?_; ((conv => arg 5; whnf); repeat ((first | (with_reducible refine wT ?_) | (with_reducible refine wF ?_) | (with_reducible refine wO (by kernel_rfl) ?_)); refine wGo ?_; (conv => arg 5; whnf))))
  (refine wP _ _ (append_op Try.T_ok rfl rfl rfl rfl rfl [2] (old_nil rfl _ _ _ (fun _ => [])) (new_vec rfl rfl (Nat.le_of_eq (Nat.zero_add _)) rfl) rfl (fun _ _ => rfl) a1 a2) ?_; ((conv => arg 5; whnf); repeat ((first | (with_reducible refine wT ?_) | (with_reducible refine wF ?_) | (with_reducible refine wO (by kernel_rfl) ?_)); refine wGo ?_; (conv => arg 5; whnf))))
  (refine wP _ _ (append_op Try.T_ok rfl rfl rfl rfl rfl [3] (old_nil rfl _ _ _ (fun _ => [])) (new_vec rfl rfl (Nat.le_of_eq (Nat.zero_add _)) rfl) rfl (fun _ _ => rfl) b1 b2) ?_; ((conv => arg 5; whnf); repeat ((first | (with_reducible refine wT ?_) | (with_reducible refine wF ?_) | (with_reducible refine wO (by kernel_rfl) ?_)); refine wGo ?_; (conv => arg 5; whnf))))
  refine wD ⟨.inr rfl, _, (RC.shuts R 16 rfl rfl rfl rfl (Nat.zero_add _) (Nat.zero_add _) (by omega) (by omega) (fun i _ => ?_) (fun i _ => ?_)).trans (RC.shuts R 0 rfl rfl rfl rfl rfl rfl (Nat.le_refl _) (Nat.le_refl _) (fun _ _ => rfl) (fun _ _ => rfl)), rfl, fun j ch hj => ?_, fun j ch hj => by cases hj; exact ⟨by decide, rfl⟩⟩
  · rw [joinF_nil]; simp
  · rw [joinF_nil]; simp
  · simp only [Mem.get, nbeq] at hj
    by_cases hk : 0 = j
    · subst hk; simp at hj; subst hj; exact ⟨by decide, rfl⟩
    · simp [hk] at hj
end Go.Proofs.Ytfdmlpdhngmbiaa
