/- Parts Td Te Tf Tg. -/
import Derived.Test.YtmoohekgheoliaaGreatDoorG18
set_option linter.unusedSimpArgs false
set_option linter.unusedVariables false
namespace Go.Proofs.YtmoohekgheoliaaGreatDoor
set_option maxRecDepth 100000
open Go.Sx
def TxM.bare (t : TxM) : TxM := { t with ins := [], outs := [], fwds := [] }
def payB (t : TxM) : Bool := insOK t.ins && (outsOK t.outs && (fwdsOK t.fwds && decide (0 < t.outs.length + t.fwds.length)))
noncomputable def mayPay (t : TxM) (hc : t.claim.Wf) : Bool := payB t && (emptyB t.bare && claimZ t.claim hc)
def mayPaySt (t : TxM) : St := ⟨[none, some (XV.sv (.ptr 6 0 0 0)), none, some (XV.bool (payB t))] ++ List.replicate 68 none, 
  [(3, .ro 8 t.par.keys.length (keysF t.par.keys)), (4, .ro 9 t.cert.outs.length (outsF t.cert.outs)), (5, .ro 282 t.cert.sigs.length (sgdsF t.cert.sigs)),
   (6, .cells 49 (.raw (.int .i64 t.kind) :: .raw (.int .i64 t.height) :: .raw (.slice none 0 0) :: .raw (.slice none 0 0) :: .raw (.slice none 0 0) :: boxC 3 (t.par.ac ++ (t.cert.ac ++ rC t.claim.cells))))], 7⟩
set_option maxHeartbeats 4000000 in
theorem mayPay_can (t : TxM) (hk : t.kind = 2) (hs : Sized t) (hc : t.claim.Wf) : Reads Tryz.prog 36 [.box t.ac] [] (XV.bool (mayPay t hc)) := by
  have hi := hs.ins
  have ho := hs.outs
  have hf := hs.fwds
  have hs' : Sized t.bare := ⟨Nat.zero_le _, Nat.zero_le _, Nat.zero_le _, hs.keys, hs.couts, hs.sigs⟩
  obtain ⟨kind, height, ins, outs, fwds, par, cert, claim⟩ := t
  dsimp only at hk hi ho hf
  subst hk
  refine Reads.of Tryz.T_ok Tryz.func36 rfl _ _ _ rfl rfl (fun C hC => ?_)
  (replace hC : C.n0 = 6 := hC; change Tri _ _ _ ⟨_, _, 6⟩ _)
  (refine Tri.cut 2 Tryz.mixed Tryz.T_ok ?_; ((conv => arg 5; whnf); repeat ((with_reducible first | refine xT ?_ | refine xF ?_ | refine xO ?_ | refine xN ?_ | refine xU ?_ | refine xV ?_); conv => arg 5; whnf)))
  refine wD <| cutG <| Tri.merge (mayPaySt ⟨2, height, ins, outs, fwds, par, cert, claim⟩) (Tri.of Tryz.mixed Tryz.T_ok ?_) (Tri.of Tryz.mixed Tryz.T_ok ?_)
  · have fin : ∀ {S : St} {b : Bool}, b = payB ⟨2, height, ins, outs, fwds, par, cert, claim⟩ → Ent C S ⟨(mayPaySt ⟨2, height, ins, outs, fwds, par, cert, claim⟩).slots.set 3 (some (XV.bool b)), (mayPaySt ⟨2, height, ins, outs, fwds, par, cert, claim⟩).mem, 7⟩ → Ent C S (mayPaySt ⟨2, height, ins, outs, fwds, par, cert, claim⟩) := by
      intro S b hb h; subst hb; exact h
    (refine wBegin ?_; ((conv => arg 5; whnf); repeat ((with_reducible first | refine xT ?_ | refine xF ?_ | refine xO ?_ | refine xN ?_ | refine xU ?_ | refine xV ?_); conv => arg 5; whnf)))
    (refine wFd rfl ?_; refine wGo ?_; ((conv => arg 5; whnf); repeat ((with_reducible first | refine xT ?_ | refine xF ?_ | refine xO ?_ | refine xN ?_ | refine xU ?_ | refine xV ?_); conv => arg 5; whnf)))
    (refine wTd rfl ?_; refine wGo ?_; ((conv => arg 5; whnf); repeat ((with_reducible first | refine xT ?_ | refine xF ?_ | refine xO ?_ | refine xN ?_ | refine xU ?_ | refine xV ?_); conv => arg 5; whnf)))
    (apply wP; exact (call_op rfl (entersB_of Tryz.func67 (by kernel_rfl)) rfl ((insOK_can ins hi).at [0] ⟨lend_ro0 rfl rfl, trivial⟩ trivial)); ((conv => arg 5; whnf); repeat ((with_reducible first | refine xT ?_ | refine xF ?_ | refine xO ?_ | refine xN ?_ | refine xU ?_ | refine xV ?_); conv => arg 5; whnf)))
    refine wC (fun h1 => ?_) (fun h1 => ?_)
    · (refine wGo ?_; ((conv => arg 5; whnf); repeat ((with_reducible first | refine xT ?_ | refine xF ?_ | refine xO ?_ | refine xN ?_ | refine xU ?_ | refine xV ?_); conv => arg 5; whnf)))
      (apply wP; exact (call_op rfl (entersB_of Tryz.func66 (by kernel_rfl)) rfl ((outsOK_can outs ho).at [1] ⟨lend_ro0 rfl rfl, trivial⟩ trivial)); ((conv => arg 5; whnf); repeat ((with_reducible first | refine xT ?_ | refine xF ?_ | refine xO ?_ | refine xN ?_ | refine xU ?_ | refine xV ?_); conv => arg 5; whnf)))
      refine wC (fun h2 => ?_) (fun h2 => ?_)
      · (refine wGo ?_; ((conv => arg 5; whnf); repeat ((with_reducible first | refine xT ?_ | refine xF ?_ | refine xO ?_ | refine xN ?_ | refine xU ?_ | refine xV ?_); conv => arg 5; whnf)))
        (apply wP; exact (call_op rfl (entersB_of Tryz.func68 (by kernel_rfl)) rfl ((fwdsOK_can fwds hf).at [2] ⟨lend_ro0 rfl rfl, trivial⟩ trivial)); ((conv => arg 5; whnf); repeat ((with_reducible first | refine xT ?_ | refine xF ?_ | refine xO ?_ | refine xN ?_ | refine xU ?_ | refine xV ?_); conv => arg 5; whnf)))
        refine wC (fun h3 => ?_) (fun h3 => ?_)
        · (refine wGo ?_; ((conv => arg 5; whnf); repeat ((with_reducible first | refine xT ?_ | refine xF ?_ | refine xO ?_ | refine xN ?_ | refine xU ?_ | refine xV ?_); conv => arg 5; whnf)))
          have e1 : IntKind.i64.wrap ((outs.length : Int) + (fwds.length : Int)) = ((outs.length + fwds.length : Nat) : Int) := (by (try simp only [ww1, ww2, ww3, ww4, ww5, ww6, ww7] at *); omega)
          simp only [e1]
          refine wD ⟨rfl, fin (b := decide (0 < ((outs.length + fwds.length : Nat) : Int))) ?_ ?_⟩
          · rw [payB, h1, h2, h3, Bool.true_and, Bool.true_and, Bool.true_and, Bool.eq_iff_iff, decide_eq_true_eq, decide_eq_true_eq]
            dsimp only
            omega
          ((try dsimp only); refine Ent.renC [0, 1, 2, 3, 4, 5, 6] hC ?_ ?_ <;> repeat' (first | exact trivial | exact rfl | exact ⟨_, rfl, rfl, rfl, Nat.le_refl _, fun _ _ => rfl⟩ | exact ⟨_, rfl, rfl, rfl, fun _ _ => rfl⟩ | exact ⟨_, rfl, rfl, rfl⟩ | exact ⟨_, rfl, rfl⟩ | refine ⟨_, rfl, rfl, rfl, by omega, fun k hk => ?_⟩ | refine ⟨?_, ?_⟩ | fail))
        · (refine wGo ?_; ((conv => arg 5; whnf); repeat ((with_reducible first | refine xT ?_ | refine xF ?_ | refine xO ?_ | refine xN ?_ | refine xU ?_ | refine xV ?_); conv => arg 5; whnf)))
          refine wD ⟨rfl, fin (b := false) (by rw [payB, h1, h2, h3]; rfl) ?_⟩
          ((try dsimp only); refine Ent.renC [0, 1, 2, 3, 4, 5, 6] hC ?_ ?_ <;> repeat' (first | exact trivial | exact rfl | exact ⟨_, rfl, rfl, rfl, Nat.le_refl _, fun _ _ => rfl⟩ | exact ⟨_, rfl, rfl, rfl, fun _ _ => rfl⟩ | exact ⟨_, rfl, rfl, rfl⟩ | exact ⟨_, rfl, rfl⟩ | refine ⟨_, rfl, rfl, rfl, by omega, fun k hk => ?_⟩ | refine ⟨?_, ?_⟩ | fail))
      · (refine wGo ?_; ((conv => arg 5; whnf); repeat ((with_reducible first | refine xT ?_ | refine xF ?_ | refine xO ?_ | refine xN ?_ | refine xU ?_ | refine xV ?_); conv => arg 5; whnf)))
        refine wD ⟨rfl, fin (b := false) (by rw [payB, h1, h2]; rfl) ?_⟩
        ((try dsimp only); refine Ent.renC [0, 1, 2, 3, 4, 5, 6] hC ?_ ?_ <;> repeat' (first | exact trivial | exact rfl | exact ⟨_, rfl, rfl, rfl, Nat.le_refl _, fun _ _ => rfl⟩ | exact ⟨_, rfl, rfl, rfl, fun _ _ => rfl⟩ | exact ⟨_, rfl, rfl, rfl⟩ | exact ⟨_, rfl, rfl⟩ | refine ⟨_, rfl, rfl, rfl, by omega, fun k hk => ?_⟩ | refine ⟨?_, ?_⟩ | fail))
    · (refine wGo ?_; ((conv => arg 5; whnf); repeat ((with_reducible first | refine xT ?_ | refine xF ?_ | refine xO ?_ | refine xN ?_ | refine xU ?_ | refine xV ?_); conv => arg 5; whnf)))
      refine wD ⟨rfl, fin (b := false) (by rw [payB, h1]; rfl) ?_⟩
      ((try dsimp only); refine Ent.renC [0, 1, 2, 3, 4, 5, 6] hC ?_ ?_ <;> repeat' (first | exact trivial | exact rfl | exact ⟨_, rfl, rfl, rfl, Nat.le_refl _, fun _ _ => rfl⟩ | exact ⟨_, rfl, rfl, rfl, fun _ _ => rfl⟩ | exact ⟨_, rfl, rfl, rfl⟩ | exact ⟨_, rfl, rfl⟩ | refine ⟨_, rfl, rfl, rfl, by omega, fun k hk => ?_⟩ | refine ⟨?_, ?_⟩ | fail))
  · (refine wBegin ?_; ((conv => arg 5; whnf); repeat ((with_reducible first | refine xT ?_ | refine xF ?_ | refine xO ?_ | refine xN ?_ | refine xU ?_ | refine xV ?_); conv => arg 5; whnf)))
    refine wC (fun h1 => ?_) (fun h1 => ?_)
    · (refine wGo ?_; ((conv => arg 5; whnf); repeat ((with_reducible first | refine xT ?_ | refine xF ?_ | refine xO ?_ | refine xN ?_ | refine xU ?_ | refine xV ?_); conv => arg 5; whnf)))
      (apply wP; exact (call_op rfl (entersB_of Tryz.func72 (by kernel_rfl)) rfl ((empty_can (TxM.bare ⟨2, height, ins, outs, fwds, par, cert, claim⟩) hs' hc).at [3, 4, 5] ⟨lend_tx (t := TxM.bare ⟨2, height, ins, outs, fwds, par, cert, claim⟩) (lend_nil _ _) (lend_nil _ _) (lend_nil _ _) (lend_ro0 rfl rfl) (lend_ro0 rfl rfl) (lend_ro0 rfl rfl), trivial⟩ trivial)); ((conv => arg 5; whnf); repeat ((with_reducible first | refine xT ?_ | refine xF ?_ | refine xO ?_ | refine xN ?_ | refine xU ?_ | refine xV ?_); conv => arg 5; whnf)))
      refine wD (Ends.plain (.inr rfl) rfl ?_)
      rw [mayPay, h1]; rfl
    · (refine wGo ?_; ((conv => arg 5; whnf); repeat ((with_reducible first | refine xT ?_ | refine xF ?_ | refine xO ?_ | refine xN ?_ | refine xU ?_ | refine xV ?_); conv => arg 5; whnf)))
      refine wD (Ends.plain (.inr rfl) rfl ?_)
      rw [mayPay, h1]; rfl
end Go.Proofs.YtmoohekgheoliaaGreatDoor
namespace Go.Proofs.YtmoohekgheoliaaGreatDoor
set_option maxRecDepth 100000
open Go.Sx
theorem rowB_numL (n : Int) : ∀ {w k : Nat}, k < w → bytesF (numB n) k = rowB (numL n w) k
  | w + 1, k, hk => by
    rw [numL]
    by_cases h : k < w
    · rw [rowB_numL n h]
      simp [rowB, bytesF, List.getD_eq_getElem?_getD, List.getElem?_append_left (show k < (numL n w).length by rw [numL_length]; exact h)]
    · obtain rfl : k = w := by omega
      simp [rowB, bytesF, List.getD_eq_getElem?_getD, numL_length]
def digF (n : Int) (i : Nat) : Nat → UInt8 := fun k => if k < i then numB n k else 0
def digSt (n : Int) (w i : Nat) : St :=
  ⟨[some (XV.int .i64 n), none, none, none, none, some (XV.sv (.slc 2 1 0 w)), none, none, none, some (XV.sv (.slc 2 1 0 w)), some (XV.int .i64 w), some (XV.int .i64 i)] ++ List.replicate 12 none,
   [(2, .vec 5 1 w (bytesF (digF n i)))], 3⟩
theorem digits_can (n : Int) (w : Nat) (hw : w ≤ 7) : Makes Tryz.prog 144 [.plain (.one (.raw (.int .i64 n))), .plain (.one (.raw (.int .i64 w)))] [] (XV.sv (.slc 0 1 0 w)) (.vec 5 1 w (rowB (numL n w))) := by
  refine Makes.of Tryz.T_ok Tryz.func144 rfl _ _ _ _ rfl rfl rfl rfl 2 (fun C hC => ?_)
  (replace hC : C.n0 = 2 := hC; change Tri _ _ _ ⟨_, _, 2⟩ _)
  (refine Tri.cut 2 Tryz.mixed Tryz.T_ok ?_; ((conv => arg 5; whnf); repeat ((with_reducible first | refine xT ?_ | refine xF ?_ | refine xO ?_ | refine xN ?_ | refine xU ?_ | refine xV ?_); conv => arg 5; whnf)))
  refine wN ⟨rfl, by omega, by omega⟩ ?_
  (refine wGo ?_; ((conv => arg 5; whnf); repeat ((with_reducible first | refine xT ?_ | refine xF ?_ | refine xO ?_ | refine xN ?_ | refine xU ?_ | refine xV ?_); conv => arg 5; whnf)))
  refine wD <| cutG <| Tri.seq ?_
  (refine Tri.cut 1 Tryz.mixed Tryz.T_ok ?_; ((conv => arg 5; whnf); repeat ((with_reducible first | refine xT ?_ | refine xF ?_ | refine xO ?_ | refine xN ?_ | refine xU ?_ | refine xV ?_); conv => arg 5; whnf)))
  refine wD <| cutG <| Tri.block ?_
  refine Tri.loop (α := { i : Nat // i ≤ w }) (fun i => digSt n w i.1) (fun i => w - i.1) ⟨0, Nat.zero_le _⟩ ?_ ?_
  · simp only [Int.toNat_natCast]
    ((try dsimp only); refine Ent.renC [0, 1, 4] hC ?_ ?_ <;> repeat' (first | exact trivial | exact rfl | exact ⟨_, rfl, rfl, rfl, Nat.le_refl _, fun _ _ => rfl⟩ | exact ⟨_, rfl, rfl, rfl, fun _ _ => rfl⟩ | exact ⟨_, rfl, rfl, rfl⟩ | exact ⟨_, rfl, rfl⟩ | refine ⟨_, rfl, rfl, rfl, by omega, fun k hk => ?_⟩ | refine ⟨?_, ?_⟩ | fail))
  rintro ⟨i, hi⟩
  dsimp only
  (refine Tri.cut 2 Tryz.mixed Tryz.T_ok ?_; ((conv => arg 5; whnf); repeat ((with_reducible first | refine xT ?_ | refine xF ?_ | refine xO ?_ | refine xN ?_ | refine xU ?_ | refine xV ?_); conv => arg 5; whnf)))
  refine wC (fun h1 => ?_) (fun h1 => ?_)
  · (refine wGo ?_; ((conv => arg 5; whnf); repeat ((with_reducible first | refine xT ?_ | refine xF ?_ | refine xO ?_ | refine xN ?_ | refine xU ?_ | refine xV ?_); conv => arg 5; whnf)))
    have h1' : i < w := (by (try simp only [ww1, ww2, ww3, ww4, ww5, ww6, ww7] at *); omega)
    have hw1 : IntKind.i64.wrap ((i : Int) + 1) = ((i + 1 : Nat) : Int) := (by (try simp only [ww1, ww2, ww3, ww4, ww5, ww6, ww7] at *); omega)
    have hw8 : IntKind.i64.wrap (8 * (i : Int)) = ((8 * i : Nat) : Int) := (by (try simp only [ww1, ww2, ww3, ww4, ww5, ww6, ww7] at *); omega)
    refine wD <| cutG <| Tri.seq <| Tri.block <| Tri.of Tryz.mixed Tryz.T_ok ?_
    (refine wBegin ?_; ((conv => arg 5; whnf); repeat ((with_reducible first | refine xT ?_ | refine xF ?_ | refine xO ?_ | refine xN ?_ | refine xU ?_ | refine xV ?_); conv => arg 5; whnf)))
    simp only [hw8]
    (repeat (refine wN ?_ ?_; exact (by (try simp only [ww1, ww2, ww3, ww4, ww5, ww6, ww7] at *); omega); refine wGo ?_; ((conv => arg 5; whnf); repeat ((with_reducible first | refine xT ?_ | refine xF ?_ | refine xO ?_ | refine xN ?_ | refine xU ?_ | refine xV ?_); conv => arg 5; whnf))))
    refine wD <| blockN <| cutG <| Tri.of Tryz.mixed Tryz.T_ok ?_
    (refine wBegin ?_; ((conv => arg 5; whnf); repeat ((with_reducible first | refine xT ?_ | refine xF ?_ | refine xO ?_ | refine xN ?_ | refine xU ?_ | refine xV ?_); conv => arg 5; whnf)))
    refine wD <| loopN ⟨⟨i + 1, h1'⟩, by dsimp only; omega, ?_⟩
    rw [hw1]
    ((try dsimp only); refine Ent.renC [0, 1, 2] hC ?_ ?_ <;> repeat' (first | exact trivial | exact rfl | exact ⟨_, rfl, rfl, rfl, Nat.le_refl _, fun _ _ => rfl⟩ | exact ⟨_, rfl, rfl, rfl, fun _ _ => rfl⟩ | exact ⟨_, rfl, rfl, rfl⟩ | exact ⟨_, rfl, rfl⟩ | refine ⟨_, rfl, rfl, rfl, by omega, fun k hk => ?_⟩ | refine ⟨?_, ?_⟩ | fail))
    simp only [Int.toNat_natCast, Nat.zero_add]
    rw [← u8_byteI, updB]
    simp only [bytesF, digF]
    by_cases hk2 : k = i
    · subst hk2
      rw [if_pos rfl, if_pos (Nat.lt_succ_self k)]
      rfl
    · rw [if_neg hk2]
      by_cases hk3 : k < i
      · rw [if_pos hk3, if_pos (by omega)]
      · rw [if_neg hk3, if_neg (by omega)]
  · (refine wGo ?_; ((conv => arg 5; whnf); repeat ((with_reducible first | refine xT ?_ | refine xF ?_ | refine xO ?_ | refine xN ?_ | refine xU ?_ | refine xV ?_); conv => arg 5; whnf)))
    have h1' : i = w := (by (try simp only [ww1, ww2, ww3, ww4, ww5, ww6, ww7] at *); omega)
    subst h1'
    have hf : ∀ k, k < i → bytesF (digF n i) k = rowB (numL n i) k := fun k hk => by
      rw [← rowB_numL n hk]; simp [bytesF, digF, hk]
    refine wD <| cutE <| loopX <| blockX <| cutG <| Tri.ent (Ent.chg0 (c := 2) (g := rowB (numL n i)) rfl hf) <| Tri.of Tryz.mixed Tryz.T_ok ?_
    (refine wBegin ?_; ((conv => arg 5; whnf); repeat ((with_reducible first | refine xT ?_ | refine xF ?_ | refine xO ?_ | refine xN ?_ | refine xU ?_ | refine xV ?_); conv => arg 5; whnf)))
    exact wD (Ends.made (.inr rfl) (Ent.refl _) rfl (Nat.le_refl _) rfl)
structure WrM where
  b : List UInt8
  e : Int
def wrM (ty : TypeId) (W : WrM) : Mem := [(0, .cells ty [.slc 1 1 0 W.b.length, .raw (.int .i64 W.e)]), (1, .vec 5 1 W.b.length (rowB W.b))]
def wrP (ty : TypeId) (W : WrM) : AbsP := packP (wrM ty W) True
theorem WrM.opens {P : Program} {C : Ctx} {cd : Code} {slots : List (Option XV)} {mem : Mem} {nx : Nat} {Q : Exit → St → Prop} (ty : TypeId) (W : WrM) (c : Nat) (hc : mem.get c = some (.abs (wrP ty W)))
    (h : Tri P C cd ⟨slots, (c, .cells ty [.slc (nx + 1) 1 0 W.b.length, .raw (.int .i64 W.e)]) :: (nx + 1, .vec 5 1 W.b.length (rowB W.b)) :: mem.del c, nx + 2⟩ Q) : Tri P C cd ⟨slots, mem, nx⟩ Q :=
  Tri.opens (M := wrM ty W) (m := 2) (inv := True) (c := c) hc rfl fun _ => h
theorem WrM.shuts {C : Ctx} {slots : List (Option XV)} {mem : Mem} {nx : Nat} (ty : TypeId) (W : WrM) (c : Nat) {i1 m n : Nat} {er : Int} {f : Nat → List Value} (k0 : mem.get c = some (.cells ty [.slc i1 1 0 m, .raw (.int .i64 er)])) (k1 : mem.get i1 = some (.vec 5 1 n f))
    (hids : Nat.beq c i1 = false) (hm : m = W.b.length) (he : er = W.e) (hle : W.b.length ≤ n) (hf : ∀ i, i < W.b.length → f i = rowB W.b i) : Ent C ⟨slots, mem, nx⟩ ⟨slots, (c, .abs (wrP ty W)) :: mem.dels [c, i1], nx⟩ := by
  subst hm he
  exact Ent.shut2 (S := ⟨slots, mem, nx⟩) (M := wrM ty W) (inv := True) hids trivial rfl rfl rfl k0 k1 rfl ⟨rfl, rfl⟩ ⟨rfl, rfl, hle, hf⟩
theorem WrM.ends {C : Ctx} {T : TyTab} {rs : List ResultVar} {X X' : XV} {e : Exit} {n0 : Nat} {slots : List (Option XV)} {mem : Mem} {nx : Nat} {W0 : WrM} (ty : TypeId) (W : WrM) {i1 m n : Nat} {er : Int} {f : Nat → List Value} (he : e = .normal ∨ e = .ret)
    (k0 : mem.get 0 = some (.cells ty [.slc i1 1 0 m, .raw (.int .i64 er)])) (k1 : mem.get i1 = some (.vec 5 1 n f)) (hids : Nat.beq 0 i1 = false) (hr : resX T ⟨slots, (0, .abs (wrP ty W)) :: mem.dels [0, i1], nx⟩ rs = some X') (hX : X' = X) (hW : W = W0)
    (hm : m = W.b.length) (her : er = W.e) (hle : W.b.length ≤ n) (hf : ∀ i, i < W.b.length → f i = rowB W.b i) : Sx.Ends C T rs 1 n0 ⟨X, [(0, .abs (wrP ty W0))], none⟩ e ⟨slots, mem, nx⟩ := by
  subst hX hW
  exact Ends.shutN he (WrM.shuts ty W 0 k0 k1 hids hm her hle hf) rfl hr rfl
def WrM.put (W : WrM) (b : List UInt8) : WrM := if W.e = 0 then (if (131072 : Int) - (W.b.length : Int) < (b.length : Int) then ⟨W.b, 3⟩ else ⟨W.b ++ b, W.e⟩) else W
theorem put_can (ty : TypeId) (W : WrM) (b : List UInt8) (hW : W.b.length ≤ 1000000) (hb : b.length ≤ 1000000) : Acts Tryz.prog 143 (.abs (wrP ty W)) (.abs (wrP ty (W.put b))) [.row 1 b.length (rowB b)] [] (.tup []) := by
  refine Acts.of Tryz.T_ok Tryz.func143 rfl _ _ _ _ _ rfl rfl rfl (fun C hC => ?_)
  (replace hC : C.n0 = 2 := hC; change Tri _ _ _ ⟨_, _, 2⟩ _)
  refine WrM.opens ty W 0 rfl (Tri.of Tryz.mixed Tryz.T_ok ?_)
  (refine wBegin ?_; ((conv => arg 5; whnf); repeat ((with_reducible first | refine xT ?_ | refine xF ?_ | refine xO ?_ | refine xN ?_ | refine xU ?_ | refine xV ?_); conv => arg 5; whnf)))
  refine wC (fun h1 => ?_) (fun h1 => ?_)
  · have h1' : ¬ W.e = 0 := by simpa using h1
    (refine wGo ?_; ((conv => arg 5; whnf); repeat ((with_reducible first | refine xT ?_ | refine xF ?_ | refine xO ?_ | refine xN ?_ | refine xU ?_ | refine xV ?_); conv => arg 5; whnf)))
    refine wD (WrM.ends ty W (.inl rfl) rfl rfl rfl rfl rfl ?_ rfl rfl (Nat.le_refl _) (fun _ _ => rfl))
    rw [WrM.put, if_neg h1']
  · have h1' : W.e = 0 := by simpa using h1
    (refine wGo ?_; ((conv => arg 5; whnf); repeat ((with_reducible first | refine xT ?_ | refine xF ?_ | refine xO ?_ | refine xN ?_ | refine xU ?_ | refine xV ?_); conv => arg 5; whnf)))
    have e1 : IntKind.i64.wrap (131072 - (W.b.length : Int)) = 131072 - (W.b.length : Int) := (by (try simp only [ww1, ww2, ww3, ww4, ww5, ww6, ww7] at *); omega)
    simp only [e1]
    refine wC (fun h2 => ?_) (fun h2 => ?_)
    · have h2' : (131072 : Int) - (W.b.length : Int) < (b.length : Int) := of_decide_eq_true h2
      (refine wGo ?_; ((conv => arg 5; whnf); repeat ((with_reducible first | refine xT ?_ | refine xF ?_ | refine xO ?_ | refine xN ?_ | refine xU ?_ | refine xV ?_); conv => arg 5; whnf)))
      refine wD (WrM.ends ty ⟨W.b, 3⟩ (.inl rfl) rfl rfl rfl rfl rfl ?_ rfl rfl (Nat.le_refl _) (fun _ _ => rfl))
      rw [WrM.put, if_pos h1', if_pos h2']
    · have h2' : ¬ (131072 : Int) - (W.b.length : Int) < (b.length : Int) := of_decide_eq_false h2
      (refine wGo ?_; ((conv => arg 5; whnf); repeat ((with_reducible first | refine xT ?_ | refine xF ?_ | refine xO ?_ | refine xN ?_ | refine xU ?_ | refine xV ?_); conv => arg 5; whnf)))
      (refine wP _ _ (append_op Tryz.T_ok rfl rfl rfl rfl rfl [3, 1] (old_vec rfl rfl (Nat.le_refl _) rfl) (new_ro (lo := 0) rfl rfl (Nat.le_of_eq (Nat.zero_add _)) rfl) rfl (fun _ _ => rfl) (by simp only [maxLen]; omega) (by dsimp only; omega)) ?_; ((conv => arg 5; whnf); repeat ((with_reducible first | refine xT ?_ | refine xF ?_ | refine xO ?_ | refine xN ?_ | refine xU ?_ | refine xV ?_); conv => arg 5; whnf)))
      refine wD (WrM.ends ty ⟨W.b ++ b, W.e⟩ (.inl rfl) rfl rfl rfl rfl rfl ?_ (List.length_append).symm rfl (Nat.le_of_eq List.length_append) (fun i hi => ?_))
      · rw [WrM.put, if_pos h1', if_neg h2']
      · exact rowB_join rfl (fun _ _ => rfl) (fun _ _ => by rw [Nat.zero_add]) (by rw [← List.length_append]; exact hi)
def FitsN (n : Int) (w : Nat) : Prop := 1 ≤ w ∧ w ≤ 7 ∧ 0 ≤ n ∧ n < 2 ^ (8 * w)
theorem fits_shr {n : Int} {w : Nat} (h : FitsN n w) : shrI .i64 n ((8 * w : Nat) : Int) = 0 := by
  obtain ⟨h1, h2, h3, h4⟩ := h
  have hb : IntKind.i64.bits = 64 := rfl
  have e : min (((8 * w : Nat) : Int).toNat) IntKind.i64.bits = 8 * w := by rw [hb]; omega
  rw [shrI, e, Int.fdiv_eq_ediv_of_nonneg _ (Int.le_of_lt (Int.pow_pos (by decide)))]
  exact Int.ediv_eq_zero_of_lt h3 h4
theorem wnum_can (ty : TypeId) (W : WrM) (n : Int) (w : Nat) (hn : FitsN n w) (hW : W.b.length ≤ 1000000) : Acts Tryz.prog 121 (.abs (wrP ty W)) (.abs (wrP ty (W.put (numL n w)))) [.plain (.one (.raw (.int .i64 n))), .plain (.one (.raw (.int .i64 w)))] [] (.tup []) := by
  obtain ⟨f1, f2, f3, f4⟩ := id hn
  refine Acts.of Tryz.T_ok Tryz.func121 rfl _ _ _ _ _ rfl rfl rfl (fun C hC => ?_)
  (replace hC : C.n0 = 3 := hC; change Tri _ _ _ ⟨_, _, 3⟩ _)
  refine WrM.opens ty W 0 rfl (Tri.block ?_)
  (refine Tri.cut 1 Tryz.mixed Tryz.T_ok ?_; ((conv => arg 5; whnf); repeat ((with_reducible first | refine xT ?_ | refine xF ?_ | refine xO ?_ | refine xN ?_ | refine xU ?_ | refine xV ?_); conv => arg 5; whnf)))
  refine wD <| cutG <| Tri.cond (b := (W.e != 0)) rfl (fun h1 => ?_) (fun h1 => ?_)
  · have h1' : ¬ W.e = 0 := by simpa using h1
    refine Tri.skip (blockN (WrM.ends ty W (.inl rfl) rfl rfl rfl rfl rfl ?_ rfl rfl (Nat.le_refl _) (fun _ _ => rfl)))
    rw [WrM.put, if_neg h1']
  · have e8 : IntKind.i64.wrap (8 * (w : Int)) = ((8 * w : Nat) : Int) := (by (try simp only [ww1, ww2, ww3, ww4, ww5, ww6, ww7] at *); omega)
    refine Tri.ent (WrM.shuts ty W 0 rfl rfl rfl rfl rfl (Nat.le_refl _) (fun _ _ => rfl)) (Tri.of Tryz.mixed Tryz.T_ok ?_)
    (refine wBegin ?_; ((conv => arg 5; whnf); repeat ((with_reducible first | refine xT ?_ | refine xF ?_ | refine xO ?_ | refine xN ?_ | refine xU ?_ | refine xV ?_); conv => arg 5; whnf)))
    (refine wFd ?_ ?_; (first | refine decide_eq_false ?_ | rw [beq_eq_false_iff_ne] | rw [bne_eq_false_iff_eq]); exact (by (try simp only [ww1, ww2, ww3, ww4, ww5, ww6, ww7] at *); omega); refine wGo ?_; ((conv => arg 5; whnf); repeat ((with_reducible first | refine xT ?_ | refine xF ?_ | refine xO ?_ | refine xN ?_ | refine xU ?_ | refine xV ?_); conv => arg 5; whnf)))
    (refine wFd ?_ ?_; (first | refine decide_eq_false ?_ | rw [beq_eq_false_iff_ne] | rw [bne_eq_false_iff_eq]); exact (by (try simp only [ww1, ww2, ww3, ww4, ww5, ww6, ww7] at *); omega); refine wGo ?_; ((conv => arg 5; whnf); repeat ((with_reducible first | refine xT ?_ | refine xF ?_ | refine xO ?_ | refine xN ?_ | refine xU ?_ | refine xV ?_); conv => arg 5; whnf)))
    (refine wFd ?_ ?_; (first | refine decide_eq_false ?_ | rw [beq_eq_false_iff_ne] | rw [bne_eq_false_iff_eq]); exact (by (try simp only [ww1, ww2, ww3, ww4, ww5, ww6, ww7] at *); omega); refine wGo ?_; ((conv => arg 5; whnf); repeat ((with_reducible first | refine xT ?_ | refine xF ?_ | refine xO ?_ | refine xN ?_ | refine xU ?_ | refine xV ?_); conv => arg 5; whnf)))
    simp only [e8]
    (repeat (refine wN ?_ ?_; exact (by (try simp only [ww1, ww2, ww3, ww4, ww5, ww6, ww7] at *); omega); refine wGo ?_; ((conv => arg 5; whnf); repeat ((with_reducible first | refine xT ?_ | refine xF ?_ | refine xO ?_ | refine xN ?_ | refine xU ?_ | refine xV ?_); conv => arg 5; whnf))))
    simp only [fits_shr hn]
    (refine wFd rfl ?_; refine wGo ?_; ((conv => arg 5; whnf); repeat ((with_reducible first | refine xT ?_ | refine xF ?_ | refine xO ?_ | refine xN ?_ | refine xU ?_ | refine xV ?_); conv => arg 5; whnf)))
    (apply wP; exact (call_op rfl (entersB_of Tryz.func144 (by kernel_rfl)) rfl ((digits_can n w f2).at [] ⟨lend_plain rfl, lend_plain rfl, trivial⟩ trivial)); ((conv => arg 5; whnf); repeat ((with_reducible first | refine xT ?_ | refine xF ?_ | refine xO ?_ | refine xN ?_ | refine xU ?_ | refine xV ?_); conv => arg 5; whnf)))
    (apply wP; exact (call_op rfl (entersB_of Tryz.func143 (by kernel_rfl)) rfl ((put_can ty W (numL n w) hW (by rw [numL_length]; omega)).at [36] rfl rfl rfl ⟨lend_vecN (numL_length n w).symm rfl rfl (by rw [numL_length]; omega) (fun i _ => by rw [Nat.zero_add]), trivial⟩ trivial)); ((conv => arg 5; whnf); repeat ((with_reducible first | refine xT ?_ | refine xF ?_ | refine xO ?_ | refine xN ?_ | refine xU ?_ | refine xV ?_); conv => arg 5; whnf)))
    exact wD (blockN (Ends.shutN (.inl rfl) (Ent.refl _) rfl rfl rfl))
def WrM.hash (W : WrM) (h : H8) : WrM := W.put h.l
theorem whash_can (ty : TypeId) (W : WrM) (h : H8) (hW : W.b.length ≤ 1000000) : Acts Tryz.prog 145 (.abs (wrP ty W)) (.abs (wrP ty (W.put h.l))) [.plain h.x] [] (.tup []) := by
  refine Acts.of Tryz.T_ok Tryz.func145 rfl _ _ _ _ _ rfl rfl rfl (fun C hC => ?_)
  (replace hC : C.n0 = 2 := hC; change Tri _ _ _ ⟨_, _, 2⟩ _)
  refine Tri.of Tryz.mixed Tryz.T_ok ?_
  (refine wBegin ?_; ((conv => arg 5; whnf); repeat ((with_reducible first | refine xT ?_ | refine xF ?_ | refine xO ?_ | refine xN ?_ | refine xU ?_ | refine xV ?_); conv => arg 5; whnf)))
  (apply wP; exact (call_op rfl (entersB_of Tryz.func143 (by kernel_rfl)) rfl ((put_can ty W h.l hW (by simp [H8.l_len])).at [2] rfl rfl rfl ⟨lend_sla rfl rfl (fun _ _ => rfl) rfl, trivial⟩ trivial)); ((conv => arg 5; whnf); repeat ((with_reducible first | refine xT ?_ | refine xF ?_ | refine xO ?_ | refine xN ?_ | refine xU ?_ | refine xV ?_); conv => arg 5; whnf)))
  exact wD (Ends.shutN (.inl rfl) (Ent.refl _) rfl rfl rfl)
end Go.Proofs.YtmoohekgheoliaaGreatDoor
namespace Go.Proofs.YtmoohekgheoliaaGreatDoor
set_option maxRecDepth 100000
open Go.Sx
def WrM.puts (W : WrM) (cs : List (List UInt8)) : WrM := cs.foldl WrM.put W
theorem puts_snoc (W : WrM) (cs : List (List UInt8)) (c : List UInt8) : W.puts (cs ++ [c]) = (W.puts cs).put c := by simp [WrM.puts]
theorem puts_append (W : WrM) (cs ds : List (List UInt8)) : W.puts (cs ++ ds) = (W.puts cs).puts ds := by simp [WrM.puts]
theorem put_len {W : WrM} {b : List UInt8} (h : W.b.length ≤ 131072) : (W.put b).b.length ≤ 131072 := by
  unfold WrM.put
  split
  · split
    · exact h
    · rename_i h2
      simp only [List.length_append]
      omega
  · exact h
theorem puts_len : ∀ {cs : List (List UInt8)} {W : WrM}, W.b.length ≤ 131072 → (W.puts cs).b.length ≤ 131072
  | [], _, h => h
  | c :: cs, W, h => puts_len (cs := cs) (put_len (b := c) h)
theorem puts_ok : ∀ {cs : List (List UInt8)} {W : WrM}, W.e = 0 → W.b.length + cs.flatten.length ≤ 131072 → W.puts cs = ⟨W.b ++ cs.flatten, 0⟩
  | [], W, h, _ => by
    cases W
    simp only at h
    simp [WrM.puts, h]
  | c :: cs, W, h, hl => by
    simp only [List.flatten_cons, List.length_append] at hl
    have e : W.put c = ⟨W.b ++ c, 0⟩ := by
      rw [WrM.put, if_pos h, if_neg (by omega), h]
    show (W.put c).puts cs = _
    rw [e, puts_ok rfl (by simp only [List.length_append]; omega)]
    simp
def hashesL (p : Nat → H8) (n : Nat) : List (List UInt8) := (List.range n).map fun i => (p i).l
theorem hashesL_succ (p : Nat → H8) (n : Nat) : hashesL p (n + 1) = hashesL p n ++ [(p n).l] := by simp [hashesL, List.range_succ]
theorem row_can (ty : TypeId) (W : WrM) (p : Nat → H8) (n : Nat) (hn : n ≤ 1000000000) (hW : W.b.length ≤ 131072) : Acts Tryz.prog 147 (.abs (wrP ty W)) (.abs (wrP ty (W.puts (hashesL p n)))) [.row 8 n (hashF p)] [] (.tup []) := by
  refine Acts.of Tryz.T_ok Tryz.func147 rfl _ _ _ _ _ rfl rfl rfl (fun C hC => ?_)
  (replace hC : C.n0 = 2 := hC; change Tri _ _ _ ⟨_, _, 2⟩ _)
  (refine Tri.cut 1 Tryz.mixed Tryz.T_ok ?_; ((conv => arg 5; whnf); repeat ((with_reducible first | refine xT ?_ | refine xF ?_ | refine xO ?_ | refine xN ?_ | refine xU ?_ | refine xV ?_); conv => arg 5; whnf)))
  refine wD <| cutG <| Tri.block ?_
  refine Tri.loop (α := { i : Nat // i ≤ n }) (fun i => ⟨[some (XV.sv (.ptr 0 0 0 0)), none, none, none, none, none, some (XV.sv (.slc 1 8 0 n)), some (XV.int .i64 n), some (XV.int .i64 i.1)] ++ List.replicate 9 none, [(0, .abs (wrP ty (W.puts (hashesL p i.1)))), (1, .ro 8 n (hashF p))], 2⟩) (fun i => n - i.1) ⟨0, Nat.zero_le _⟩ ?_ ?_
  · ((try dsimp only); refine Ent.renC [0, 1] hC ?_ ?_ <;> repeat' (first | exact trivial | exact rfl | exact ⟨_, rfl, rfl, rfl, Nat.le_refl _, fun _ _ => rfl⟩ | exact ⟨_, rfl, rfl, rfl, fun _ _ => rfl⟩ | exact ⟨_, rfl, rfl, rfl⟩ | exact ⟨_, rfl, rfl⟩ | refine ⟨_, rfl, rfl, rfl, by omega, fun k hk => ?_⟩ | refine ⟨?_, ?_⟩ | fail))
  rintro ⟨i, hi⟩
  dsimp only
  (refine Tri.cut 2 Tryz.mixed Tryz.T_ok ?_; ((conv => arg 5; whnf); repeat ((with_reducible first | refine xT ?_ | refine xF ?_ | refine xO ?_ | refine xN ?_ | refine xU ?_ | refine xV ?_); conv => arg 5; whnf)))
  refine wC (fun h1 => ?_) (fun h1 => ?_)
  · (refine wGo ?_; ((conv => arg 5; whnf); repeat ((with_reducible first | refine xT ?_ | refine xF ?_ | refine xO ?_ | refine xN ?_ | refine xU ?_ | refine xV ?_); conv => arg 5; whnf)))
    have h1' : i < n := (by (try simp only [ww1, ww2, ww3, ww4, ww5, ww6, ww7] at *); omega)
    have hw : IntKind.i64.wrap ((i : Int) + 1) = ((i + 1 : Nat) : Int) := (by (try simp only [ww1, ww2, ww3, ww4, ww5, ww6, ww7] at *); omega)
    have hp := puts_len (cs := hashesL p i) hW
    refine wD <| cutG <| Tri.seq <| Tri.block <| Tri.of Tryz.mixed Tryz.T_ok ?_
    (refine wBegin ?_; ((conv => arg 5; whnf); repeat ((with_reducible first | refine xT ?_ | refine xF ?_ | refine xO ?_ | refine xN ?_ | refine xU ?_ | refine xV ?_); conv => arg 5; whnf)))
    (repeat (refine wN ?_ ?_; exact (by (try simp only [ww1, ww2, ww3, ww4, ww5, ww6, ww7] at *); omega); refine wGo ?_; ((conv => arg 5; whnf); repeat ((with_reducible first | refine xT ?_ | refine xF ?_ | refine xO ?_ | refine xN ?_ | refine xU ?_ | refine xV ?_); conv => arg 5; whnf))))
    simp only [Nat.zero_add, Int.toNat_natCast]
    (apply wP; exact (call_op rfl (entersB_of Tryz.func145 (by kernel_rfl)) rfl ((whash_can ty (W.puts (hashesL p i)) (p i) (by omega)).at [] rfl rfl rfl ⟨lend_plain rfl, trivial⟩ trivial)); ((conv => arg 5; whnf); repeat ((with_reducible first | refine xT ?_ | refine xF ?_ | refine xO ?_ | refine xN ?_ | refine xU ?_ | refine xV ?_); conv => arg 5; whnf)))
    refine wD <| blockN <| cutG <| Tri.of Tryz.mixed Tryz.T_ok ?_
    (refine wBegin ?_; ((conv => arg 5; whnf); repeat ((with_reducible first | refine xT ?_ | refine xF ?_ | refine xO ?_ | refine xN ?_ | refine xU ?_ | refine xV ?_); conv => arg 5; whnf)))
    refine wD <| loopN ⟨⟨i + 1, h1'⟩, by dsimp only; omega, ?_⟩
    rw [hw]
    dsimp only
    rw [hashesL_succ, puts_snoc]
    ((try dsimp only); refine Ent.renC [0, 1] hC ?_ ?_ <;> repeat' (first | exact trivial | exact rfl | exact ⟨_, rfl, rfl, rfl, Nat.le_refl _, fun _ _ => rfl⟩ | exact ⟨_, rfl, rfl, rfl, fun _ _ => rfl⟩ | exact ⟨_, rfl, rfl, rfl⟩ | exact ⟨_, rfl, rfl⟩ | refine ⟨_, rfl, rfl, rfl, by omega, fun k hk => ?_⟩ | refine ⟨?_, ?_⟩ | fail))
  · (refine wGo ?_; ((conv => arg 5; whnf); repeat ((with_reducible first | refine xT ?_ | refine xF ?_ | refine xO ?_ | refine xN ?_ | refine xU ?_ | refine xV ?_); conv => arg 5; whnf)))
    have h1' : i = n := (by (try simp only [ww1, ww2, ww3, ww4, ww5, ww6, ww7] at *); omega)
    subst h1'
    exact wD <| cutE <| loopX <| blockX (Ends.shutN (.inl rfl) (Ent.refl _) rfl rfl rfl)
def SigM.parts (s : SigM) : List (List UInt8) := numL s.idx 1 :: (hashesL s.opn 16 ++ (hashesL s.shut 16 ++ hashesL s.path 3))
theorem sig_can (ty : TypeId) (W : WrM) (s : SigM) (hs : FitsN s.idx 1) (hW : W.b.length ≤ 131072) : Acts Tryz.prog 146 (.abs (wrP ty W)) (.abs (wrP ty (W.puts s.parts))) [.plain s.x] [] (.tup []) := by
  have h1 := put_len (b := numL s.idx 1) hW
  have h2 := puts_len (cs := hashesL s.opn 16) h1
  have h3 := puts_len (cs := hashesL s.shut 16) h2
  refine Acts.of Tryz.T_ok Tryz.func146 rfl _ _ _ _ _ rfl rfl rfl (fun C hC => ?_)
  (replace hC : C.n0 = 2 := hC; change Tri _ _ _ ⟨_, _, 2⟩ _)
  refine Tri.of Tryz.mixed Tryz.T_ok ?_
  (refine wBegin ?_; ((conv => arg 5; whnf); repeat ((with_reducible first | refine xT ?_ | refine xF ?_ | refine xO ?_ | refine xN ?_ | refine xU ?_ | refine xV ?_); conv => arg 5; whnf)))
  (apply wP; exact (call_op rfl (entersB_of Tryz.func121 (by kernel_rfl)) rfl ((wnum_can ty W s.idx 1 hs (by omega)).at [] rfl rfl rfl ⟨lend_plain rfl, lend_plain rfl, trivial⟩ trivial)); ((conv => arg 5; whnf); repeat ((with_reducible first | refine xT ?_ | refine xF ?_ | refine xO ?_ | refine xN ?_ | refine xU ?_ | refine xV ?_); conv => arg 5; whnf)))
  (apply wP; exact (call_op rfl (entersB_of Tryz.func147 (by kernel_rfl)) rfl ((row_can ty (W.put (numL s.idx 1)) s.opn 16 (by decide) h1).at [2] rfl rfl rfl ⟨lend_sla rfl rfl (fun _ _ => rfl) rfl, trivial⟩ trivial)); ((conv => arg 5; whnf); repeat ((with_reducible first | refine xT ?_ | refine xF ?_ | refine xO ?_ | refine xN ?_ | refine xU ?_ | refine xV ?_); conv => arg 5; whnf)))
  (apply wP; exact (call_op rfl (entersB_of Tryz.func147 (by kernel_rfl)) rfl ((row_can ty ((W.put (numL s.idx 1)).puts (hashesL s.opn 16)) s.shut 16 (by decide) h2).at [2] rfl rfl rfl ⟨lend_sla rfl rfl (fun _ _ => rfl) rfl, trivial⟩ trivial)); ((conv => arg 5; whnf); repeat ((with_reducible first | refine xT ?_ | refine xF ?_ | refine xO ?_ | refine xN ?_ | refine xU ?_ | refine xV ?_); conv => arg 5; whnf)))
  (apply wP; exact (call_op rfl (entersB_of Tryz.func147 (by kernel_rfl)) rfl ((row_can ty (((W.put (numL s.idx 1)).puts (hashesL s.opn 16)).puts (hashesL s.shut 16)) s.path 3 (by decide) h3).at [2] rfl rfl rfl ⟨lend_sla rfl rfl (fun _ _ => rfl) rfl, trivial⟩ trivial)); ((conv => arg 5; whnf); repeat ((with_reducible first | refine xT ?_ | refine xF ?_ | refine xO ?_ | refine xN ?_ | refine xU ?_ | refine xV ?_); conv => arg 5; whnf)))
  have e : W.puts s.parts = (((W.put (numL s.idx 1)).puts (hashesL s.opn 16)).puts (hashesL s.shut 16)).puts (hashesL s.path 3) := by
    show (W.put (numL s.idx 1)).puts _ = _
    rw [puts_append, puts_append]
  rw [e]
  exact wD (Ends.shutN (.inl rfl) (Ent.refl _) rfl rfl rfl)
end Go.Proofs.YtmoohekgheoliaaGreatDoor
namespace Go.Proofs.YtmoohekgheoliaaGreatDoor
set_option maxRecDepth 100000
open Go.Sx
theorem flatMap_take_succ {E F : Type} [Inhabited E] (f : E → List F) {l : List E} {i : Nat} (hi : i < l.length) : (l.take (i + 1)).flatMap f = (l.take i).flatMap f ++ f (l.getD i default) := by
  rw [List.take_add_one, List.flatMap_append]
  have : l[i]?.toList = [l.getD i default] := by rw [List.getElem?_eq_getElem hi, List.getD_eq_getElem?_getD, List.getElem?_eq_getElem hi]; rfl
  rw [this]; simp
theorem all_at {E : Type} [Inhabited E] {p : E → Bool} {l : List E} (h : l.all p = true) {i : Nat} (hi : i < l.length) : p (l.getD i default) = true := by
  rw [List.getD_eq_getElem?_getD, List.getElem?_eq_getElem hi]
  exact List.all_eq_true.1 h _ (List.getElem_mem hi)
theorem within_iff {n a b : Int} : withinB n a b = true ↔ a ≤ n ∧ n ≤ b := by simp [withinB]
theorem fits_within {n b : Int} {w : Nat} (h : withinB n 0 b = true) (hw : 1 ≤ w ∧ w ≤ 7) (hb : b < 2 ^ (8 * w)) : FitsN n w := by
  rw [within_iff] at h
  exact ⟨hw.1, hw.2, h.1, Int.lt_of_le_of_lt h.2 hb⟩
theorem fits_money {n : Int} (h : moneyB n = true) : FitsN n 7 := by
  rw [moneyB, within_iff] at h
  exact ⟨by decide, by decide, by omega, by omega⟩
theorem fits_len {n : Nat} (h : n ≤ 255) : FitsN (n : Int) 1 := ⟨by decide, by decide, by omega, by omega⟩
def OutM.parts (o : OutM) : List (List UInt8) := [o.to.l, numL o.amt.toInt 7]
def outsParts (l : List OutM) : List (List UInt8) := numL (l.length : Int) 1 :: l.flatMap OutM.parts
theorem wouts_can (ty : TypeId) (W : WrM) (l : List OutM) (hl : outsOK l = true) (hW : W.b.length ≤ 131072) : Acts Tryz.prog 122 (.abs (wrP ty W)) (.abs (wrP ty (W.puts (outsParts l)))) [.row 9 l.length (outsF l)] [] (.tup []) := by
  rw [outsOK, Bool.and_eq_true, decide_eq_true_eq] at hl
  obtain ⟨ha, hn⟩ := hl
  refine Acts.of Tryz.T_ok Tryz.func122 rfl _ _ _ _ _ rfl rfl rfl (fun C hC => ?_)
  (replace hC : C.n0 = 2 := hC; change Tri _ _ _ ⟨_, _, 2⟩ _)
  (refine Tri.cut 2 Tryz.mixed Tryz.T_ok ?_; ((conv => arg 5; whnf); repeat ((with_reducible first | refine xT ?_ | refine xF ?_ | refine xO ?_ | refine xN ?_ | refine xU ?_ | refine xV ?_); conv => arg 5; whnf)))
  (apply wP; exact (call_op rfl (entersB_of Tryz.func121 (by kernel_rfl)) rfl ((wnum_can ty W (l.length : Int) 1 (fits_len (by omega)) (by omega)).at [] rfl rfl rfl ⟨lend_plain rfl, lend_plain rfl, trivial⟩ trivial)); ((conv => arg 5; whnf); repeat ((with_reducible first | refine xT ?_ | refine xF ?_ | refine xO ?_ | refine xN ?_ | refine xU ?_ | refine xV ?_); conv => arg 5; whnf)))
  refine wD <| cutG <| Tri.block ?_
  refine Tri.loop (α := { i : Nat // i ≤ l.length }) (fun i => ⟨[some (XV.sv (.ptr 0 0 0 0)), none, none, none, none, none, none, none, none, none, none, none, some (XV.sv (.slc 1 9 0 l.length)), some (XV.int .i64 l.length), some (XV.int .i64 i.1)] ++ List.replicate 16 none, [(0, .abs (wrP ty (W.puts (numL (l.length : Int) 1 :: (l.take i.1).flatMap OutM.parts)))), (1, .ro 9 l.length (outsF l))], 2⟩) (fun i => l.length - i.1) ⟨0, Nat.zero_le _⟩ ?_ ?_
  · ((try dsimp only); refine Ent.renC [0, 1] hC ?_ ?_ <;> repeat' (first | exact trivial | exact rfl | exact ⟨_, rfl, rfl, rfl, Nat.le_refl _, fun _ _ => rfl⟩ | exact ⟨_, rfl, rfl, rfl, fun _ _ => rfl⟩ | exact ⟨_, rfl, rfl, rfl⟩ | exact ⟨_, rfl, rfl⟩ | refine ⟨_, rfl, rfl, rfl, by omega, fun k hk => ?_⟩ | refine ⟨?_, ?_⟩ | fail))
  rintro ⟨i, hi⟩
  dsimp only
  (refine Tri.cut 2 Tryz.mixed Tryz.T_ok ?_; ((conv => arg 5; whnf); repeat ((with_reducible first | refine xT ?_ | refine xF ?_ | refine xO ?_ | refine xN ?_ | refine xU ?_ | refine xV ?_); conv => arg 5; whnf)))
  refine wC (fun h1 => ?_) (fun h1 => ?_)
  · (refine wGo ?_; ((conv => arg 5; whnf); repeat ((with_reducible first | refine xT ?_ | refine xF ?_ | refine xO ?_ | refine xN ?_ | refine xU ?_ | refine xV ?_); conv => arg 5; whnf)))
    have h1' : i < l.length := (by (try simp only [ww1, ww2, ww3, ww4, ww5, ww6, ww7] at *); omega)
    have hw : IntKind.i64.wrap ((i : Int) + 1) = ((i + 1 : Nat) : Int) := (by (try simp only [ww1, ww2, ww3, ww4, ww5, ww6, ww7] at *); omega)
    have ho := all_at ha h1'
    rw [outOK, Bool.and_eq_true] at ho
    have hp := puts_len (cs := numL (l.length : Int) 1 :: (l.take i).flatMap OutM.parts) hW
    have hp2 := put_len (b := (l.getD i default).to.l) hp
    refine wD <| cutG <| Tri.seq <| Tri.block <| Tri.of Tryz.mixed Tryz.T_ok ?_
    (refine wBegin ?_; ((conv => arg 5; whnf); repeat ((with_reducible first | refine xT ?_ | refine xF ?_ | refine xO ?_ | refine xN ?_ | refine xU ?_ | refine xV ?_); conv => arg 5; whnf)))
    (repeat (refine wN ?_ ?_; exact (by (try simp only [ww1, ww2, ww3, ww4, ww5, ww6, ww7] at *); omega); refine wGo ?_; ((conv => arg 5; whnf); repeat ((with_reducible first | refine xT ?_ | refine xF ?_ | refine xO ?_ | refine xN ?_ | refine xU ?_ | refine xV ?_); conv => arg 5; whnf))))
    simp only [Nat.zero_add, Int.toNat_natCast]
    (apply wP; exact (call_op rfl (entersB_of Tryz.func145 (by kernel_rfl)) rfl ((whash_can ty (W.puts (numL (l.length : Int) 1 :: (l.take i).flatMap OutM.parts)) (l.getD i default).to (by omega)).at [] rfl rfl rfl ⟨lend_plain rfl, trivial⟩ trivial)); ((conv => arg 5; whnf); repeat ((with_reducible first | refine xT ?_ | refine xF ?_ | refine xO ?_ | refine xN ?_ | refine xU ?_ | refine xV ?_); conv => arg 5; whnf)))
    (apply wP; exact (call_op rfl (entersB_of Tryz.func121 (by kernel_rfl)) rfl ((wnum_can ty ((W.puts (numL (l.length : Int) 1 :: (l.take i).flatMap OutM.parts)).put (l.getD i default).to.l) (l.getD i default).amt.toInt 7 (fits_money ho.2) (by omega)).at [] rfl rfl rfl ⟨lend_plain rfl, lend_plain rfl, trivial⟩ trivial)); ((conv => arg 5; whnf); repeat ((with_reducible first | refine xT ?_ | refine xF ?_ | refine xO ?_ | refine xN ?_ | refine xU ?_ | refine xV ?_); conv => arg 5; whnf)))
    refine wD <| blockN <| cutG <| Tri.of Tryz.mixed Tryz.T_ok ?_
    (refine wBegin ?_; ((conv => arg 5; whnf); repeat ((with_reducible first | refine xT ?_ | refine xF ?_ | refine xO ?_ | refine xN ?_ | refine xU ?_ | refine xV ?_); conv => arg 5; whnf)))
    refine wD <| loopN ⟨⟨i + 1, h1'⟩, by dsimp only; omega, ?_⟩
    rw [hw]
    dsimp only
    rw [flatMap_take_succ _ h1', ← List.cons_append, puts_append]
    ((try dsimp only); refine Ent.renC [0, 1] hC ?_ ?_ <;> repeat' (first | exact trivial | exact rfl | exact ⟨_, rfl, rfl, rfl, Nat.le_refl _, fun _ _ => rfl⟩ | exact ⟨_, rfl, rfl, rfl, fun _ _ => rfl⟩ | exact ⟨_, rfl, rfl, rfl⟩ | exact ⟨_, rfl, rfl⟩ | refine ⟨_, rfl, rfl, rfl, by omega, fun k hk => ?_⟩ | refine ⟨?_, ?_⟩ | fail))
  · (refine wGo ?_; ((conv => arg 5; whnf); repeat ((with_reducible first | refine xT ?_ | refine xF ?_ | refine xO ?_ | refine xN ?_ | refine xU ?_ | refine xV ?_); conv => arg 5; whnf)))
    have h1' : i = l.length := (by (try simp only [ww1, ww2, ww3, ww4, ww5, ww6, ww7] at *); omega)
    subst h1'
    rw [List.take_length]
    exact wD <| cutE <| loopX <| blockX (Ends.shutN (.inl rfl) (Ent.refl _) rfl rfl rfl)
def FwdM.parts (f : FwdM) : List (List UInt8) := [numL f.side.toInt 1, numL f.acct.toInt 2, f.owner.l, numL f.amt.toInt 7]
def fwdsParts (l : List FwdM) : List (List UInt8) := numL (l.length : Int) 1 :: l.flatMap FwdM.parts
theorem wfwds_can (ty : TypeId) (W : WrM) (l : List FwdM) (hl : fwdsOK l = true) (hW : W.b.length ≤ 131072) : Acts Tryz.prog 124 (.abs (wrP ty W)) (.abs (wrP ty (W.puts (fwdsParts l)))) [.row 11 l.length (fwdsF l)] [] (.tup []) := by
  rw [fwdsOK, Bool.and_eq_true, decide_eq_true_eq] at hl
  obtain ⟨ha, hn⟩ := hl
  refine Acts.of Tryz.T_ok Tryz.func124 rfl _ _ _ _ _ rfl rfl rfl (fun C hC => ?_)
  (replace hC : C.n0 = 2 := hC; change Tri _ _ _ ⟨_, _, 2⟩ _)
  (refine Tri.cut 2 Tryz.mixed Tryz.T_ok ?_; ((conv => arg 5; whnf); repeat ((with_reducible first | refine xT ?_ | refine xF ?_ | refine xO ?_ | refine xN ?_ | refine xU ?_ | refine xV ?_); conv => arg 5; whnf)))
  (apply wP; exact (call_op rfl (entersB_of Tryz.func121 (by kernel_rfl)) rfl ((wnum_can ty W (l.length : Int) 1 (fits_len (by omega)) (by omega)).at [] rfl rfl rfl ⟨lend_plain rfl, lend_plain rfl, trivial⟩ trivial)); ((conv => arg 5; whnf); repeat ((with_reducible first | refine xT ?_ | refine xF ?_ | refine xO ?_ | refine xN ?_ | refine xU ?_ | refine xV ?_); conv => arg 5; whnf)))
  refine wD <| cutG <| Tri.block ?_
  refine Tri.loop (α := { i : Nat // i ≤ l.length }) (fun i => ⟨[some (XV.sv (.ptr 0 0 0 0)), none, none, none, none, none, none, none, none, none, none, none, some (XV.sv (.slc 1 11 0 l.length)), some (XV.int .i64 l.length), some (XV.int .i64 i.1)] ++ List.replicate 28 none, [(0, .abs (wrP ty (W.puts (numL (l.length : Int) 1 :: (l.take i.1).flatMap FwdM.parts)))), (1, .ro 11 l.length (fwdsF l))], 2⟩) (fun i => l.length - i.1) ⟨0, Nat.zero_le _⟩ ?_ ?_
  · ((try dsimp only); refine Ent.renC [0, 1] hC ?_ ?_ <;> repeat' (first | exact trivial | exact rfl | exact ⟨_, rfl, rfl, rfl, Nat.le_refl _, fun _ _ => rfl⟩ | exact ⟨_, rfl, rfl, rfl, fun _ _ => rfl⟩ | exact ⟨_, rfl, rfl, rfl⟩ | exact ⟨_, rfl, rfl⟩ | refine ⟨_, rfl, rfl, rfl, by omega, fun k hk => ?_⟩ | refine ⟨?_, ?_⟩ | fail))
  rintro ⟨i, hi⟩
  dsimp only
  (refine Tri.cut 2 Tryz.mixed Tryz.T_ok ?_; ((conv => arg 5; whnf); repeat ((with_reducible first | refine xT ?_ | refine xF ?_ | refine xO ?_ | refine xN ?_ | refine xU ?_ | refine xV ?_); conv => arg 5; whnf)))
  refine wC (fun h1 => ?_) (fun h1 => ?_)
  · (refine wGo ?_; ((conv => arg 5; whnf); repeat ((with_reducible first | refine xT ?_ | refine xF ?_ | refine xO ?_ | refine xN ?_ | refine xU ?_ | refine xV ?_); conv => arg 5; whnf)))
    have h1' : i < l.length := (by (try simp only [ww1, ww2, ww3, ww4, ww5, ww6, ww7] at *); omega)
    have hw : IntKind.i64.wrap ((i : Int) + 1) = ((i + 1 : Nat) : Int) := (by (try simp only [ww1, ww2, ww3, ww4, ww5, ww6, ww7] at *); omega)
    have ho := all_at ha h1'
    rw [fwdOK, acctB, Bool.and_eq_true, Bool.and_eq_true, Bool.and_eq_true] at ho
    obtain ⟨V, hV, hp⟩ : ∃ V, W.puts (numL (l.length : Int) 1 :: (l.take i).flatMap FwdM.parts) = V ∧ V.b.length ≤ 131072 := ⟨_, rfl, puts_len hW⟩
    have hp1 := put_len (b := numL (l.getD i default).side.toInt 1) hp
    have hp2 := put_len (b := numL (l.getD i default).acct.toInt 2) hp1
    have hp3 := put_len (b := (l.getD i default).owner.l) hp2
    rw [hV]
    refine wD <| cutG <| Tri.seq <| Tri.block <| Tri.of Tryz.mixed Tryz.T_ok ?_
    (refine wBegin ?_; ((conv => arg 5; whnf); repeat ((with_reducible first | refine xT ?_ | refine xF ?_ | refine xO ?_ | refine xN ?_ | refine xU ?_ | refine xV ?_); conv => arg 5; whnf)))
    (repeat (refine wN ?_ ?_; exact (by (try simp only [ww1, ww2, ww3, ww4, ww5, ww6, ww7] at *); omega); refine wGo ?_; ((conv => arg 5; whnf); repeat ((with_reducible first | refine xT ?_ | refine xF ?_ | refine xO ?_ | refine xN ?_ | refine xU ?_ | refine xV ?_); conv => arg 5; whnf))))
    simp only [Nat.zero_add, Int.toNat_natCast]
    (apply wP; exact (call_op rfl (entersB_of Tryz.func121 (by kernel_rfl)) rfl ((wnum_can ty V (l.getD i default).side.toInt 1 (fits_within ho.1.1.1 (by decide) (by decide)) (by omega)).at [] rfl rfl rfl ⟨lend_plain rfl, lend_plain rfl, trivial⟩ trivial)); ((conv => arg 5; whnf); repeat ((with_reducible first | refine xT ?_ | refine xF ?_ | refine xO ?_ | refine xN ?_ | refine xU ?_ | refine xV ?_); conv => arg 5; whnf)))
    (apply wP; exact (call_op rfl (entersB_of Tryz.func121 (by kernel_rfl)) rfl ((wnum_can ty (V.put (numL (l.getD i default).side.toInt 1)) (l.getD i default).acct.toInt 2 (fits_within ho.1.1.2 (by decide) (by decide)) (by omega)).at [] rfl rfl rfl ⟨lend_plain rfl, lend_plain rfl, trivial⟩ trivial)); ((conv => arg 5; whnf); repeat ((with_reducible first | refine xT ?_ | refine xF ?_ | refine xO ?_ | refine xN ?_ | refine xU ?_ | refine xV ?_); conv => arg 5; whnf)))
    (apply wP; exact (call_op rfl (entersB_of Tryz.func145 (by kernel_rfl)) rfl ((whash_can ty ((V.put (numL (l.getD i default).side.toInt 1)).put (numL (l.getD i default).acct.toInt 2)) (l.getD i default).owner (by omega)).at [] rfl rfl rfl ⟨lend_plain rfl, trivial⟩ trivial)); ((conv => arg 5; whnf); repeat ((with_reducible first | refine xT ?_ | refine xF ?_ | refine xO ?_ | refine xN ?_ | refine xU ?_ | refine xV ?_); conv => arg 5; whnf)))
    (apply wP; exact (call_op rfl (entersB_of Tryz.func121 (by kernel_rfl)) rfl ((wnum_can ty (((V.put (numL (l.getD i default).side.toInt 1)).put (numL (l.getD i default).acct.toInt 2)).put (l.getD i default).owner.l) (l.getD i default).amt.toInt 7 (fits_money ho.2) (by omega)).at [] rfl rfl rfl ⟨lend_plain rfl, lend_plain rfl, trivial⟩ trivial)); ((conv => arg 5; whnf); repeat ((with_reducible first | refine xT ?_ | refine xF ?_ | refine xO ?_ | refine xN ?_ | refine xU ?_ | refine xV ?_); conv => arg 5; whnf)))
    refine wD <| blockN <| cutG <| Tri.of Tryz.mixed Tryz.T_ok ?_
    (refine wBegin ?_; ((conv => arg 5; whnf); repeat ((with_reducible first | refine xT ?_ | refine xF ?_ | refine xO ?_ | refine xN ?_ | refine xU ?_ | refine xV ?_); conv => arg 5; whnf)))
    refine wD <| loopN ⟨⟨i + 1, h1'⟩, by dsimp only; omega, ?_⟩
    rw [hw]
    dsimp only
    rw [flatMap_take_succ _ h1', ← List.cons_append, puts_append, hV]
    ((try dsimp only); refine Ent.renC [0, 1] hC ?_ ?_ <;> repeat' (first | exact trivial | exact rfl | exact ⟨_, rfl, rfl, rfl, Nat.le_refl _, fun _ _ => rfl⟩ | exact ⟨_, rfl, rfl, rfl, fun _ _ => rfl⟩ | exact ⟨_, rfl, rfl, rfl⟩ | exact ⟨_, rfl, rfl⟩ | refine ⟨_, rfl, rfl, rfl, by omega, fun k hk => ?_⟩ | refine ⟨?_, ?_⟩ | fail))
  · (refine wGo ?_; ((conv => arg 5; whnf); repeat ((with_reducible first | refine xT ?_ | refine xF ?_ | refine xO ?_ | refine xN ?_ | refine xU ?_ | refine xV ?_); conv => arg 5; whnf)))
    have h1' : i = l.length := (by (try simp only [ww1, ww2, ww3, ww4, ww5, ww6, ww7] at *); omega)
    subst h1'
    rw [List.take_length]
    exact wD <| cutE <| loopX <| blockX (Ends.shutN (.inl rfl) (Ent.refl _) rfl rfl rfl)
def InM.parts (x : InM) : List (List UInt8) := x.pt.tx.l :: numL x.pt.no.toInt 1 :: x.key.l :: x.sig.parts
def insParts (l : List InM) : List (List UInt8) := numL (l.length : Int) 1 :: l.flatMap InM.parts
theorem range_all_at {p : Nat → Bool} {n i : Nat} (h : (List.range n).all p = true) (hi : i < n) : p i = true := List.all_eq_true.1 h i (List.mem_range.2 hi)
set_option maxHeartbeats 1000000 in
theorem wins_can (ty : TypeId) (W : WrM) (l : List InM) (hl : insOK l = true) (hW : W.b.length ≤ 131072) : Acts Tryz.prog 123 (.abs (wrP ty W)) (.abs (wrP ty (W.puts (insParts l)))) [.row 298 l.length (insF l)] [] (.tup []) := by
  rw [insOK, Bool.and_eq_true, within_iff] at hl
  obtain ⟨ha, hn⟩ := hl
  refine Acts.of Tryz.T_ok Tryz.func123 rfl _ _ _ _ _ rfl rfl rfl (fun C hC => ?_)
  (replace hC : C.n0 = 2 := hC; change Tri _ _ _ ⟨_, _, 2⟩ _)
  (refine Tri.cut 2 Tryz.mixed Tryz.T_ok ?_; ((conv => arg 5; whnf); repeat ((with_reducible first | refine xT ?_ | refine xF ?_ | refine xO ?_ | refine xN ?_ | refine xU ?_ | refine xV ?_); conv => arg 5; whnf)))
  (apply wP; exact (call_op rfl (entersB_of Tryz.func121 (by kernel_rfl)) rfl ((wnum_can ty W (l.length : Int) 1 (fits_len (by omega)) (by omega)).at [] rfl rfl rfl ⟨lend_plain rfl, lend_plain rfl, trivial⟩ trivial)); ((conv => arg 5; whnf); repeat ((with_reducible first | refine xT ?_ | refine xF ?_ | refine xO ?_ | refine xN ?_ | refine xU ?_ | refine xV ?_); conv => arg 5; whnf)))
  refine wD <| cutG <| Tri.block ?_
  refine Tri.loop (α := { i : Nat // i ≤ l.length }) (fun i => ⟨[some (XV.sv (.ptr 0 0 0 0)), none, none, none, none, none, none, none, none, none, none, none, some (XV.sv (.slc 1 298 0 l.length)), some (XV.int .i64 l.length), some (XV.int .i64 i.1)] ++ List.replicate 28 none, [(0, .abs (wrP ty (W.puts (numL (l.length : Int) 1 :: (l.take i.1).flatMap InM.parts)))), (1, .ro 298 l.length (insF l))], 2⟩) (fun i => l.length - i.1) ⟨0, Nat.zero_le _⟩ ?_ ?_
  · ((try dsimp only); refine Ent.renC [0, 1] hC ?_ ?_ <;> repeat' (first | exact trivial | exact rfl | exact ⟨_, rfl, rfl, rfl, Nat.le_refl _, fun _ _ => rfl⟩ | exact ⟨_, rfl, rfl, rfl, fun _ _ => rfl⟩ | exact ⟨_, rfl, rfl, rfl⟩ | exact ⟨_, rfl, rfl⟩ | refine ⟨_, rfl, rfl, rfl, by omega, fun k hk => ?_⟩ | refine ⟨?_, ?_⟩ | fail))
  rintro ⟨i, hi⟩
  dsimp only
  (refine Tri.cut 2 Tryz.mixed Tryz.T_ok ?_; ((conv => arg 5; whnf); repeat ((with_reducible first | refine xT ?_ | refine xF ?_ | refine xO ?_ | refine xN ?_ | refine xU ?_ | refine xV ?_); conv => arg 5; whnf)))
  refine wC (fun h1 => ?_) (fun h1 => ?_)
  · (refine wGo ?_; ((conv => arg 5; whnf); repeat ((with_reducible first | refine xT ?_ | refine xF ?_ | refine xO ?_ | refine xN ?_ | refine xU ?_ | refine xV ?_); conv => arg 5; whnf)))
    have h1' : i < l.length := (by (try simp only [ww1, ww2, ww3, ww4, ww5, ww6, ww7] at *); omega)
    have hw : IntKind.i64.wrap ((i : Int) + 1) = ((i + 1 : Nat) : Int) := (by (try simp only [ww1, ww2, ww3, ww4, ww5, ww6, ww7] at *); omega)
    have ho := range_all_at ha h1'
    rw [insAt, Bool.and_eq_true, Bool.and_eq_true] at ho
    obtain ⟨V, hV, hp⟩ : ∃ V, W.puts (numL (l.length : Int) 1 :: (l.take i).flatMap InM.parts) = V ∧ V.b.length ≤ 131072 := ⟨_, rfl, puts_len hW⟩
    have hp1 := put_len (b := (l.getD i default).pt.tx.l) hp
    have hp2 := put_len (b := numL (l.getD i default).pt.no.toInt 1) hp1
    have hp3 := put_len (b := (l.getD i default).key.l) hp2
    rw [hV]
    refine wD <| cutG <| Tri.seq <| Tri.block <| Tri.of Tryz.mixed Tryz.T_ok ?_
    (refine wBegin ?_; ((conv => arg 5; whnf); repeat ((with_reducible first | refine xT ?_ | refine xF ?_ | refine xO ?_ | refine xN ?_ | refine xU ?_ | refine xV ?_); conv => arg 5; whnf)))
    (repeat (refine wN ?_ ?_; exact (by (try simp only [ww1, ww2, ww3, ww4, ww5, ww6, ww7] at *); omega); refine wGo ?_; ((conv => arg 5; whnf); repeat ((with_reducible first | refine xT ?_ | refine xF ?_ | refine xO ?_ | refine xN ?_ | refine xU ?_ | refine xV ?_); conv => arg 5; whnf))))
    simp only [Nat.zero_add, Int.toNat_natCast]
    (apply wP; exact (call_op rfl (entersB_of Tryz.func145 (by kernel_rfl)) rfl ((whash_can ty V (l.getD i default).pt.tx (by omega)).at [] rfl rfl rfl ⟨lend_plain rfl, trivial⟩ trivial)); ((conv => arg 5; whnf); repeat ((with_reducible first | refine xT ?_ | refine xF ?_ | refine xO ?_ | refine xN ?_ | refine xU ?_ | refine xV ?_); conv => arg 5; whnf)))
    (apply wP; exact (call_op rfl (entersB_of Tryz.func121 (by kernel_rfl)) rfl ((wnum_can ty (V.put (l.getD i default).pt.tx.l) (l.getD i default).pt.no.toInt 1 (fits_within ho.2.1 (by decide) (by decide)) (by omega)).at [] rfl rfl rfl ⟨lend_plain rfl, lend_plain rfl, trivial⟩ trivial)); ((conv => arg 5; whnf); repeat ((with_reducible first | refine xT ?_ | refine xF ?_ | refine xO ?_ | refine xN ?_ | refine xU ?_ | refine xV ?_); conv => arg 5; whnf)))
    (apply wP; exact (call_op rfl (entersB_of Tryz.func145 (by kernel_rfl)) rfl ((whash_can ty ((V.put (l.getD i default).pt.tx.l).put (numL (l.getD i default).pt.no.toInt 1)) (l.getD i default).key (by omega)).at [] rfl rfl rfl ⟨lend_plain rfl, trivial⟩ trivial)); ((conv => arg 5; whnf); repeat ((with_reducible first | refine xT ?_ | refine xF ?_ | refine xO ?_ | refine xN ?_ | refine xU ?_ | refine xV ?_); conv => arg 5; whnf)))
    (apply wP; exact (call_op rfl (entersB_of Tryz.func146 (by kernel_rfl)) rfl ((sig_can ty (((V.put (l.getD i default).pt.tx.l).put (numL (l.getD i default).pt.no.toInt 1)).put (l.getD i default).key.l) (l.getD i default).sig (fits_within ho.2.2 (by decide) (by decide)) hp3).at [] rfl rfl rfl ⟨lend_plain rfl, trivial⟩ trivial)); ((conv => arg 5; whnf); repeat ((with_reducible first | refine xT ?_ | refine xF ?_ | refine xO ?_ | refine xN ?_ | refine xU ?_ | refine xV ?_); conv => arg 5; whnf)))
    refine wD <| blockN <| cutG <| Tri.of Tryz.mixed Tryz.T_ok ?_
    (refine wBegin ?_; ((conv => arg 5; whnf); repeat ((with_reducible first | refine xT ?_ | refine xF ?_ | refine xO ?_ | refine xN ?_ | refine xU ?_ | refine xV ?_); conv => arg 5; whnf)))
    refine wD <| loopN ⟨⟨i + 1, h1'⟩, by dsimp only; omega, ?_⟩
    rw [hw]
    dsimp only
    rw [flatMap_take_succ _ h1', ← List.cons_append, puts_append, hV]
    ((try dsimp only); refine Ent.renC [0, 1] hC ?_ ?_ <;> repeat' (first | exact trivial | exact rfl | exact ⟨_, rfl, rfl, rfl, Nat.le_refl _, fun _ _ => rfl⟩ | exact ⟨_, rfl, rfl, rfl, fun _ _ => rfl⟩ | exact ⟨_, rfl, rfl, rfl⟩ | exact ⟨_, rfl, rfl⟩ | refine ⟨_, rfl, rfl, rfl, by omega, fun k hk => ?_⟩ | refine ⟨?_, ?_⟩ | fail))
  · (refine wGo ?_; ((conv => arg 5; whnf); repeat ((with_reducible first | refine xT ?_ | refine xF ?_ | refine xO ?_ | refine xN ?_ | refine xU ?_ | refine xV ?_); conv => arg 5; whnf)))
    have h1' : i = l.length := (by (try simp only [ww1, ww2, ww3, ww4, ww5, ww6, ww7] at *); omega)
    subst h1'
    rw [List.take_length]
    exact wD <| cutE <| loopX <| blockX (Ends.shutN (.inl rfl) (Ent.refl _) rfl rfl rfl)
end Go.Proofs.YtmoohekgheoliaaGreatDoor
