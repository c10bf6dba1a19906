/- Parts Yl Hp Hq Hr Hs Hw Yr Ym. -/
import Derived.Test.YtnpkdoggfnlapaaGreatDoorG19
import Derived.Test.YtnpkdoggfnlapaaGreatDoorG11
import Derived.Test.YtnpkdoggfnlapaaGreatDoorG15
import Derived.Test.YtnpkdoggfnlapaaGreatDoorG10
set_option linter.unusedSimpArgs false
set_option linter.unusedVariables false
namespace Go.Proofs.YtnpkdoggfnlapaaGreatDoor
set_option maxRecDepth 100000
open Go.Sx
abbrev rrS : TypeId := 108
abbrev rrE : TypeId := 109
abbrev rReg (L : List SideM) : AbsP := regP rrS rrE L
theorem boxed_par (p : ParM) (h : Int) (q : Nat) (hq : Boxed q [.vec 29 8 p.keys.length (keysF p.keys)] [.ins q 1 0 p.keys.length] [.row 8 p.keys.length (keysF p.keys)]) : Boxed q [.vec 29 8 p.keys.length (keysF p.keys)] (sideCells (sideOf p h) (.ins q 1 0 p.keys.length) nilV nilV nilV) (sideOf p h).ac :=
  boxed_side (x := sideOf p h) hq ⟨.inl ⟨rfl, rfl⟩, trivial⟩ ⟨.inl ⟨rfl, rfl⟩, trivial⟩ ⟨.inl ⟨rfl, rfl⟩, trivial⟩
theorem boxed_keys (p : ParM) (q : Nat) : Boxed q [.vec 29 8 p.keys.length (keysF p.keys)] [.ins q 1 0 p.keys.length] [.row 8 p.keys.length (keysF p.keys)] := ⟨.inr ⟨0, _, _, rfl, rfl, Nat.le_refl _, rfl⟩, trivial⟩
def rcSlots (h : Int) (c : Nat) : List (Option XV) := [some (XV.sv (.ptr 0 0 0 0)), none, some (XV.int .i64 h), none, some (XV.sv (.ptr c 0 0 0))] ++ List.replicate 35 none
def parW (p : ParM) (k : SV) : Chunk := .cells 40 (parCells p k)
def keysV (p : ParM) : Chunk := .vec 29 8 p.keys.length (keysF p.keys)
theorem packs1 {M : Mem} {i : Nat} {c0 c : Chunk} (h : M.get i = some c0) (hc : ChLe c0 c) : ∀ (j k : Nat) (ch : Chunk), [i][j]? = some k → [c][j]? = some ch → ∃ ch0, M.get k = some ch0 ∧ ChLe ch0 ch := by
  intro j k ch h1 h2
  rcases j with _ | j
  · cases h1; cases h2; exact ⟨_, h, hc⟩
  · cases h1
set_option maxHeartbeats 4000000 in
theorem rcreate_can (L : List SideM) (p : ParM) (h : Int) (hl : p.keys.length ≤ 1000000) (hL : L.length < 8) (hp : parB p = true) : Acts Tryz.prog 65 (.abs (rReg L)) (.abs (rReg (L ++ [sideOf p h]))) [.box p.ac, .plain (.one (.raw (.int .i64 h)))] [] (.tup [.one (.raw (.int .i64 L.length)), .one (.raw (.int .i64 0))]) := by
  have hq := rmayPar_can p (by omega)
  rw [hp] at hq
  refine Acts.of Tryz.T_ok Tryz.func65 rfl _ _ _ _ _ rfl rfl rfl (fun C hC => ?_)
  (replace hC : C.n0 = 3 := hC; change Tri _ _ _ ⟨_, _, 3⟩ _)
  rcases L with _ | ⟨x, r⟩
  · refine Reg.opens0 rrS rrE 0 rfl ?_
    (refine Tri.cut 4 Tryz.mixed Tryz.T_ok ?_; ((conv => arg 5; whnf); repeat (refine xS ?_; conv => arg 5; whnf)))
    (apply wP; exact (call_op rfl (entersB_of Tryz.func112 (by kernel_rfl)) rfl (hq.at [1] ⟨lend_par (lend_ro0 rfl rfl), trivial⟩ trivial)); ((conv => arg 5; whnf); repeat (refine xS ?_; conv => arg 5; whnf)))
    (refine wP _ _ (append_op Tryz.T_ok rfl rfl rfl rfl rfl [1] (old_nil rfl _ _ _ (fun _ => [])) (new_ro (lo := 0) rfl rfl (Nat.le_of_eq (Nat.zero_add _)) rfl) rfl (fun _ _ => rfl) (by simp only [maxLen]; omega) (by dsimp only; omega)) ?_; ((conv => arg 5; whnf); repeat (refine xS ?_; conv => arg 5; whnf)))
    simp only [Nat.zero_add]
    refine wD <| cutG <| Tri.ent (S' := ⟨rcSlots h 3, [(0, .cells rrS [nilV]), (3, parW p (.slc 4 8 0 p.keys.length)), (4, keysV p)], 5⟩) ?_ <| Tri.ent (Ent.pack2 [4] [keysV p] (by decide) rfl rfl (packs1 rfl (ChLe.refl _ rfl))) <|
      Tri.ent (S' := ⟨rcSlots h 3, [(0, .cells rrS [nilV]), (3, parW p (.ins 4 1 0 p.keys.length)), (4, .abs (PackP [keysV p]))], 5⟩) ?_ (Tri.of Tryz.mixed Tryz.T_ok ?_)
    · unfold rcSlots parW keysV
      ((try dsimp only); refine Ent.renC [0, 1, 2, 4, 18] hC ?_ ?_ <;> repeat' (first | exact trivial | exact rfl | exact ⟨_, rfl, rfl, rfl, Nat.le_refl _, fun _ _ => rfl⟩ | exact ⟨_, rfl, rfl, rfl, fun _ _ => rfl⟩ | exact ⟨_, rfl, rfl, rfl⟩ | exact ⟨_, rfl, rfl⟩ | refine ⟨_, rfl, rfl, rfl, by omega, fun k hk => ?_⟩ | refine ⟨?_, ?_⟩ | fail))
    · unfold rcSlots parW keysV
      ((try dsimp only); refine Ent.renC [0, 1, 2, 3, 5] hC ?_ ?_ <;> repeat' (first | exact trivial | exact rfl | exact ⟨_, rfl, rfl, rfl, Nat.le_refl _, fun _ _ => rfl⟩ | exact ⟨_, rfl, rfl, rfl, fun _ _ => rfl⟩ | exact ⟨_, rfl, rfl, rfl⟩ | exact ⟨_, rfl, rfl⟩ | refine ⟨_, rfl, rfl, rfl, by omega, fun k hk => ?_⟩ | refine ⟨?_, ?_⟩ | fail))
    unfold rcSlots parW keysV
    (refine wBegin ?_; ((conv => arg 5; whnf); repeat (refine xS ?_; conv => arg 5; whnf)))
    (refine wP _ _ (appendNils_op Tryz.T_ok rfl rfl rfl rfl rfl rfl) ?_; ((conv => arg 5; whnf); repeat (refine xS ?_; conv => arg 5; whnf)))
    (refine wP _ _ (boxSlice_op Tryz.T_ok rfl rfl rfl) ?_; ((conv => arg 5; whnf); repeat (refine xS ?_; conv => arg 5; whnf)))
    (refine wP _ _ (appendBox_op Tryz.T_ok rfl rfl rfl rfl rfl rfl rfl rfl (p := 4) rfl rfl rfl (by decide) (boxed_par p h 4 (boxed_keys p 4))) ?_; ((conv => arg 5; whnf); repeat (refine xS ?_; conv => arg 5; whnf)))
    exact wD (Ends.shutN (.inr rfl) (Reg.shuts rrS rrE [sideOf p h] 0 (i1 := 15) Nat.one_pos rfl rfl rfl rfl rfl (lt1 rfl)) rfl rfl rfl)
  · have hLr : r.length + 1 < 8 := hL
    refine Reg.opensD rrS rrE (x :: r) 0 (Nat.succ_pos _) rfl ?_
    (refine Tri.cut 4 Tryz.mixed Tryz.T_ok ?_; ((conv => arg 5; whnf); repeat (refine xS ?_; conv => arg 5; whnf)))
    (apply wP; exact (call_op rfl (entersB_of Tryz.func112 (by kernel_rfl)) rfl (hq.at [1] ⟨lend_par (lend_ro0 rfl rfl), trivial⟩ trivial)); ((conv => arg 5; whnf); repeat (refine xS ?_; conv => arg 5; whnf)))
    (refine wFd ?_ ?_; (first | refine decide_eq_false ?_ | rw [beq_eq_false_iff_ne] | rw [bne_eq_false_iff_eq]); exact (by (try simp only [ww] at *); omega); refine wGo ?_; ((conv => arg 5; whnf); repeat (refine xS ?_; conv => arg 5; whnf)))
    (refine wP _ _ (append_op Tryz.T_ok rfl rfl rfl rfl rfl [1] (old_nil rfl _ _ _ (fun _ => [])) (new_ro (lo := 0) rfl rfl (Nat.le_of_eq (Nat.zero_add _)) rfl) rfl (fun _ _ => rfl) (by simp only [maxLen]; omega) (by dsimp only; omega)) ?_; ((conv => arg 5; whnf); repeat (refine xS ?_; conv => arg 5; whnf)))
    simp only [Nat.zero_add]
    refine wD <| cutG <| Tri.ent (S' := ⟨rcSlots h 4, [(0, .cells rrS [.slc 3 42 0 (x :: r).length]), (3, .abs (DeepP rrE 42 (x :: r).length (regF (x :: r)))), (4, parW p (.slc 5 8 0 p.keys.length)), (5, keysV p)], 6⟩) ?_ <| Tri.ent (Ent.pack2 [5] [keysV p] (by decide) rfl rfl (packs1 rfl (ChLe.refl _ rfl))) <|
      Tri.ent (S' := ⟨rcSlots h 4, [(0, .cells rrS [.slc 3 42 0 (x :: r).length]), (3, .abs (DeepP rrE 42 (x :: r).length (regF (x :: r)))), (4, parW p (.ins 5 1 0 p.keys.length)), (5, .abs (PackP [keysV p]))], 6⟩) ?_ (Tri.of Tryz.mixed Tryz.T_ok ?_)
    · unfold rcSlots parW keysV
      ((try dsimp only); refine Ent.renC [0, 1, 2, 4, 5, 19] hC ?_ ?_ <;> repeat' (first | exact trivial | exact rfl | exact ⟨_, rfl, rfl, rfl, Nat.le_refl _, fun _ _ => rfl⟩ | exact ⟨_, rfl, rfl, rfl, fun _ _ => rfl⟩ | exact ⟨_, rfl, rfl, rfl⟩ | exact ⟨_, rfl, rfl⟩ | refine ⟨_, rfl, rfl, rfl, by omega, fun k hk => ?_⟩ | refine ⟨?_, ?_⟩ | fail))
    · unfold rcSlots parW keysV
      ((try dsimp only); refine Ent.renC [0, 1, 2, 3, 4, 6] hC ?_ ?_ <;> repeat' (first | exact trivial | exact rfl | exact ⟨_, rfl, rfl, rfl, Nat.le_refl _, fun _ _ => rfl⟩ | exact ⟨_, rfl, rfl, rfl, fun _ _ => rfl⟩ | exact ⟨_, rfl, rfl, rfl⟩ | exact ⟨_, rfl, rfl⟩ | refine ⟨_, rfl, rfl, rfl, by omega, fun k hk => ?_⟩ | refine ⟨?_, ?_⟩ | fail))
    unfold rcSlots parW keysV
    (refine wBegin ?_; ((conv => arg 5; whnf); repeat (refine xS ?_; conv => arg 5; whnf)))
    (refine wP _ _ (copyDeep_op Tryz.T_ok rfl rfl rfl rfl rfl rfl rfl rfl (by decide) (Nat.succ_pos _) (by simp only [maxLen]; omega) (by dsimp only; omega) (fun i _ => SideM.ac_one _)) ?_; ((conv => arg 5; whnf); repeat (refine xS ?_; conv => arg 5; whnf)))
    (refine wP _ _ (boxSlice_op Tryz.T_ok rfl rfl rfl) ?_; ((conv => arg 5; whnf); repeat (refine xS ?_; conv => arg 5; whnf)))
    (refine wP _ _ (appendBoxes_op Tryz.T_ok rfl rfl rfl rfl rfl rfl rfl rfl rfl (p := 5) rfl (by decide) (by decide) rfl rfl (by simp only [maxLen]; omega) (by dsimp only; omega) (boxed_par p h 5 (boxed_keys p 5))) ?_; ((conv => arg 5; whnf); repeat (refine xS ?_; conv => arg 5; whnf)))
    have hl1 : ((x :: r) ++ [sideOf p h]).length = (x :: r).length + 1 := by simp
    refine wD (Ends.shutN (.inr rfl) (Reg.shuts rrS rrE ((x :: r) ++ [sideOf p h]) 0 (i1 := 16) (m := (x :: r).length + 1) (n := (x :: r).length + 1) (by omega) rfl rfl rfl hl1.symm hl1.symm (fun i hi => regF_snoc hi)) rfl rfl ?_)
    have e : IntKind.i64.wrap ((((x :: r).length + 1 : Nat) : Int) - 1) = ((x :: r).length : Int) := (by (try simp only [ww] at *); omega)
    show XV.tup [.one (.raw (.int .i64 (IntKind.i64.wrap ((((x :: r).length + 1 : Nat) : Int) - 1)))), _] = _
    rw [e]
set_option maxHeartbeats 4000000 in
theorem rforward_in (L : List SideM) (i : Nat) (hi : i < L.length) (a : Int) (o : H8) (n : Int) : Acts Tryz.prog 67 (.abs (rReg L)) (.abs (rReg (L.set i (fwdX (L.getD i default) n)))) [.plain (fwdC i a o n)] [] (XV.int .i64 (fwdE (L.getD i default) n)) := by
  have h0 : 0 < L.length := by omega
  refine Acts.of Tryz.T_ok Tryz.func67 rfl _ _ _ _ _ rfl rfl rfl (fun C hC => ?_)
  (replace hC : C.n0 = 2 := hC; change Tri _ _ _ ⟨_, _, 2⟩ _)
  refine Reg.opens rrS rrE L 0 h0 rfl (Nat.le_of_ble_eq_true rfl) (fun ad => Tri.of Tryz.mixed Tryz.T_ok ?_)
  (refine wBegin ?_; ((conv => arg 5; whnf); repeat (refine xS ?_; conv => arg 5; whnf)))
  (refine wFd ?_ ?_; (first | refine decide_eq_false ?_ | rw [beq_eq_false_iff_ne] | rw [bne_eq_false_iff_eq]); exact (by (try simp only [ww] at *); omega); refine wGo ?_; ((conv => arg 5; whnf); repeat (refine xS ?_; conv => arg 5; whnf)))
  (refine wFd ?_ ?_; (first | refine decide_eq_false ?_ | rw [beq_eq_false_iff_ne] | rw [bne_eq_false_iff_eq]); exact (by (try simp only [ww] at *); omega); refine wGo ?_; ((conv => arg 5; whnf); repeat (refine xS ?_; conv => arg 5; whnf)))
  (repeat (refine wN ?_ ?_; exact (by (try simp only [ww] at *); omega); refine wGo ?_; ((conv => arg 5; whnf); repeat (refine xS ?_; conv => arg 5; whnf))))
  simp only [Nat.zero_add, Int.toNat_natCast]
  obtain ⟨x, hx⟩ : ∃ x, L.getD i default = x := ⟨_, rfl⟩
  have no : ∀ {S : St} {mem : Mem} {e : Int}, fwdE x n = e → e ≠ 0 → Ent C S ⟨S.slots, (0, .abs (rReg L)) :: mem, S.nx⟩ → resX Tryz.T ⟨S.slots, (0, .abs (rReg L)) :: mem, S.nx⟩ Tryz.f67.results.toList = some (XV.int .i64 e) →
      Sx.Ends C Tryz.T Tryz.f67.results.toList 1 2 ⟨XV.int .i64 (fwdE (L.getD i default) n), [(0, .abs (rReg (L.set i (fwdX (L.getD i default) n))))], none⟩ .ret S := by
    intro S mem e he h0 hE hr
    rw [fwd_same hi (by rw [hx, he]; exact h0), hx, he]
    exact Ends.shutN (.inr rfl) hE rfl hr rfl
  have shut := fun {slots : List (Option XV)} {mem : Mem} {nx : Nat} k0 k1 k2 => Reg.shutsO (C := C) (slots := slots) (mem := mem) (nx := nx) rrS rrE L L 0 (i1 := 3) (q := 4) (ad := ad) (m := L.length) (n := L.length) h0 k0 k1 k2 rfl rfl rfl (fun _ _ => rfl) regF_raw
  refine wC (fun h1 => ?_) (fun h1 => ?_)
  · rw [hx] at h1
    (refine wGo ?_; ((conv => arg 5; whnf); repeat (refine xS ?_; conv => arg 5; whnf)))
    exact wD (no (if_pos h1) (by decide) (shut rfl rfl rfl) rfl)
  rw [hx] at h1
  have bad : fwdOKX x n = false → fwdE x n = 5 := fun h => by rw [fwdE, if_neg (by rw [h1]; simp), if_neg (by rw [h]; simp)]
  (refine wGo ?_; ((conv => arg 5; whnf); repeat (refine xS ?_; conv => arg 5; whnf)))
  refine wC (fun h2 => ?_) (fun h2 => ?_)
  · (refine wGo ?_; ((conv => arg 5; whnf); repeat (refine xS ?_; conv => arg 5; whnf)))
    exact wD (no (bad (by rw [fwdOKX, h2]; rfl)) (by decide) (shut rfl rfl rfl) rfl)
  (refine wGo ?_; ((conv => arg 5; whnf); repeat (refine xS ?_; conv => arg 5; whnf)))
  refine wC (fun h3 => ?_) (fun h3 => ?_)
  · have h3 : mayB n = false := by simp only [decide_eq_true_eq] at h3; rw [mayB, decide_eq_false (show ¬ n ≤ 1125899906842624 by omega), Bool.and_false]
    (refine wGo ?_; ((conv => arg 5; whnf); repeat (refine xS ?_; conv => arg 5; whnf)))
    exact wD (no (bad (by rw [fwdOKX, h2, h3]; rfl)) (by decide) (shut rfl rfl rfl) rfl)
  have h3 : mayB n = true := by simp only [decide_eq_false_iff_not] at h2 h3; rw [mayB, decide_eq_true (show 0 ≤ n by omega), decide_eq_true (show n ≤ 1125899906842624 by omega)]; rfl
  (refine wGo ?_; ((conv => arg 5; whnf); repeat (refine xS ?_; conv => arg 5; whnf)))
  refine wC (fun h4 => ?_) (fun h4 => ?_)
  · rw [hx] at h4
    (refine wGo ?_; ((conv => arg 5; whnf); repeat (refine xS ?_; conv => arg 5; whnf)))
    exact wD (no (bad (by rw [fwdOKX, h2, h3, roomI, h4]; rfl)) (by decide) (shut rfl rfl rfl) rfl)
  rw [hx] at h4
  (refine wGo ?_; ((conv => arg 5; whnf); repeat (refine xS ?_; conv => arg 5; whnf)))
  refine wC (fun h5 => ?_) (fun h5 => ?_)
  · rw [hx] at h5
    (refine wGo ?_; ((conv => arg 5; whnf); repeat (refine xS ?_; conv => arg 5; whnf)))
    exact wD (no (bad (by rw [fwdOKX, h2, h3, roomI, h4, h5]; rfl)) (by decide) (shut rfl rfl rfl) rfl)
  rw [hx] at h5
  have he : fwdE x n = 0 := by rw [fwdE, if_neg (by rw [h1]; simp), if_pos (by rw [fwdOKX, h2, h3, roomI, h4, h5]; rfl)]
  have hX : fwdX x n = { x with bal := IntKind.i64.wrap (x.bal + n), fwd := IntKind.i64.wrap (x.fwd + n) } := by rw [fwdX, if_pos he]
  (refine wGo ?_; ((conv => arg 5; whnf); repeat (refine xS ?_; conv => arg 5; whnf)))
  (repeat (refine wN ?_ ?_; exact (by (try simp only [ww] at *); omega); refine wGo ?_; ((conv => arg 5; whnf); repeat (refine xS ?_; conv => arg 5; whnf))))
  simp only [Nat.zero_add, Int.toNat_natCast]
  rw [hx, he, hX]
  have hl : ∀ y : SideM, (L.set i y).length = L.length := fun y => List.length_set ..
  refine wD (Ends.shutN (.inr rfl) (Reg.shutsO rrS rrE L (L.set i { x with bal := IntKind.i64.wrap (x.bal + n), fwd := IntKind.i64.wrap (x.fwd + n) }) 0 (i1 := 3) (q := 4) (ad := ad) (by rw [hl]; exact h0) rfl rfl rfl rfl (hl _).symm (hl _).symm (fun k hk => ?_) (fun k hk j y hy => ?_)) rfl rfl rfl)
  · by_cases hki : k = i
    · subst hki
      rw [updF_eq, regF_at hi]; rfl
    · rw [updF_ne hki, regF_ne hki]
  · by_cases hki : k = i
    · subst hki
      rw [regF_at hi] at hy
      rw [regF, hx]
      exact side_rows (x := { x with bal := IntKind.i64.wrap (x.bal + n), fwd := IntKind.i64.wrap (x.fwd + n) }) (y := x) rfl rfl rfl rfl hy
    · rw [regF_ne hki] at hy
      exact .inr hy
end Go.Proofs.YtnpkdoggfnlapaaGreatDoor
namespace Go.Proofs.YtnpkdoggfnlapaaGreatDoor
set_option maxRecDepth 100000
open Go.Sx
noncomputable def frc {α : Type} (x : Nat) (k : Nat → α) : α := @Nat.rec (fun _ => α) (k 0) (fun n _ => k (Nat.succ n)) x
theorem frc_eq {α : Type} (x : Nat) (k : Nat → α) : frc x k = k x := by cases x <;> rfl
def nrot (x n m : Nat) : Nat := Nat.lor (Nat.shiftRight x n) (Nat.mod (Nat.shiftLeft x m) 4294967296)
def nS0 (x : Nat) : Nat := Nat.xor (Nat.xor (nrot x 2 30) (nrot x 13 19)) (nrot x 22 10)
def nS1 (x : Nat) : Nat := Nat.xor (Nat.xor (nrot x 6 26) (nrot x 11 21)) (nrot x 25 7)
def ns0 (x : Nat) : Nat := Nat.xor (Nat.xor (nrot x 7 25) (nrot x 18 14)) (Nat.shiftRight x 3)
def ns1 (x : Nat) : Nat := Nat.xor (Nat.xor (nrot x 17 15) (nrot x 19 13)) (Nat.shiftRight x 10)
def nch (e f g : Nat) : Nat := Nat.xor (Nat.land e f) (Nat.land (Nat.xor 4294967295 e) g)
def nmaj (a b c : Nat) : Nat := Nat.xor (Nat.xor (Nat.land a b) (Nat.land a c)) (Nat.land b c)
def nT (e f g h k w : Nat) : Nat := Nat.mod (Nat.add (Nat.add (Nat.add (Nat.add h (nS1 e)) (nch e f g)) k) w) 4294967296
def nadd (a b : Nat) : Nat := Nat.mod (Nat.add a b) 4294967296
def nmix (w0 w1 w9 w14 : Nat) : Nat := Nat.mod (Nat.add (Nat.add (Nat.add w0 w9) (ns0 w1)) (ns1 w14)) 4294967296
abbrev B32 (x : Nat) : Prop := x < 4294967296
theorem bit_nat (f : BitVec 32 → BitVec 32 → BitVec 32) (g : Nat → Nat → Nat) (hf : ∀ a b, (f a b).toNat = g a.toNat b.toNat) {x y : Nat} (hx : B32 x) (hy : B32 y) : IntKind.u32.wrap ((f (BitVec.ofInt 32 (x : Int)) (BitVec.ofInt 32 (y : Int))).toNat : Int) = ((g x y : Nat) : Int) ∧ B32 (g x y) := by
  have e1 : (BitVec.ofInt 32 (x : Int)).toNat = x := by rw [ofInt_nat, BitVec.toNat_ofNat]; exact Nat.mod_eq_of_lt hx
  have e2 : (BitVec.ofInt 32 (y : Int)).toNat = y := by rw [ofInt_nat, BitVec.toNat_ofNat]; exact Nat.mod_eq_of_lt hy
  have h := (f (BitVec.ofInt 32 (x : Int)) (BitVec.ofInt 32 (y : Int))).isLt
  rw [hf, e1, e2] at h ⊢
  refine ⟨?_, h⟩
  rw [IntKind.wrap_u32]
  exact Int.emod_eq_of_lt (by omega) (by omega)
theorem xor_nat {x y : Nat} (hx : B32 x) (hy : B32 y) : bitI .xor .u32 (x : Int) (y : Int) = ((Nat.xor x y : Nat) : Int) := (bit_nat (· ^^^ ·) Nat.xor (fun a b => BitVec.toNat_xor a b) hx hy).1
theorem and_nat {x y : Nat} (hx : B32 x) (hy : B32 y) : bitI .and .u32 (x : Int) (y : Int) = ((Nat.land x y : Nat) : Int) := (bit_nat (· &&& ·) Nat.land (fun a b => BitVec.toNat_and a b) hx hy).1
theorem or_nat {x y : Nat} (hx : B32 x) (hy : B32 y) : bitI .or .u32 (x : Int) (y : Int) = ((Nat.lor x y : Nat) : Int) := (bit_nat (· ||| ·) Nat.lor (fun a b => BitVec.toNat_or a b) hx hy).1
theorem xor_lt {x y : Nat} (hx : B32 x) (hy : B32 y) : B32 (Nat.xor x y) := (bit_nat (· ^^^ ·) Nat.xor (fun a b => BitVec.toNat_xor a b) hx hy).2
theorem and_lt {x y : Nat} (hx : B32 x) (hy : B32 y) : B32 (Nat.land x y) := (bit_nat (· &&& ·) Nat.land (fun a b => BitVec.toNat_and a b) hx hy).2
theorem or_lt {x y : Nat} (hx : B32 x) (hy : B32 y) : B32 (Nat.lor x y) := (bit_nat (· ||| ·) Nat.lor (fun a b => BitVec.toNat_or a b) hx hy).2
theorem shr32_nat (x n : Nat) (hn : n ≤ 32) : shrI .u32 (x : Int) (n : Int) = ((Nat.shiftRight x n : Nat) : Int) := by
  have hb : IntKind.u32.bits = 32 := rfl
  have e : min ((n : Int).toNat) IntKind.u32.bits = n := by rw [hb]; omega
  rw [shrI, e, Int.fdiv_eq_ediv_of_nonneg _ (Int.le_of_lt (Int.pow_pos (by decide)))]
  show _ = ((x >>> n : Nat) : Int)
  rw [Nat.shiftRight_eq_div_pow, Int.natCast_ediv, Int.natCast_pow]
  rfl
theorem shl32_nat (x n : Nat) (hn : n ≤ 32) : shlI .u32 (x : Int) (n : Int) = ((Nat.mod (Nat.shiftLeft x n) 4294967296 : Nat) : Int) := by
  have hb : IntKind.u32.bits = 32 := rfl
  have e : min ((n : Int).toNat) IntKind.u32.bits = n := by rw [hb]; omega
  rw [shlI, e, IntKind.wrap_u32]
  show _ = ((x <<< n % 4294967296 : Nat) : Int)
  rw [Nat.shiftLeft_eq, Int.natCast_emod, Int.natCast_mul, Int.natCast_pow]
  rfl
theorem mod_lt32 (x : Nat) : B32 (Nat.mod x 4294967296) := Nat.mod_lt _ (by decide)
theorem shr_lt {x : Nat} (n : Nat) (hx : B32 x) : B32 (Nat.shiftRight x n) := by
  show x >>> n < _
  rw [Nat.shiftRight_eq_div_pow]
  exact Nat.lt_of_le_of_lt (Nat.div_le_self _ _) hx
theorem rot_lt {x : Nat} (n m : Nat) (hx : B32 x) : B32 (nrot x n m) := or_lt (shr_lt n hx) (mod_lt32 _)
theorem turn_nat {x n m : Nat} (hx : B32 x) (hn : n ≤ 32) (hm : m ≤ 32) (e : IntKind.u64.wrap (32 - (n : Int)) = (m : Int)) : turn (x : Int) (n : Int) = ((nrot x n m : Nat) : Int) := by
  rw [turn, e, shr32_nat x n hn, shl32_nat x m hm, or_nat (shr_lt n hx) (mod_lt32 _)]
  rfl
theorem w32_nat (a b : Nat) : w32 (a : Int) (b : Int) = ((nadd a b : Nat) : Int) := by
  rw [w32, IntKind.wrap_u32]
  show _ = (((a + b) % 4294967296 : Nat) : Int)
  omega
theorem rotR_nat {x : Nat} (hx : B32 x) : rotR (x : Int) 2 = ((nrot x 2 30 : Nat) : Int) ∧ rotR (x : Int) 13 = ((nrot x 13 19 : Nat) : Int) ∧ rotR (x : Int) 22 = ((nrot x 22 10 : Nat) : Int) ∧ rotR (x : Int) 6 = ((nrot x 6 26 : Nat) : Int) ∧ rotR (x : Int) 11 = ((nrot x 11 21 : Nat) : Int) ∧ rotR (x : Int) 25 = ((nrot x 25 7 : Nat) : Int)
    ∧ rotR (x : Int) 7 = ((nrot x 7 25 : Nat) : Int) ∧ rotR (x : Int) 18 = ((nrot x 18 14 : Nat) : Int) ∧ rotR (x : Int) 17 = ((nrot x 17 15 : Nat) : Int) ∧ rotR (x : Int) 19 = ((nrot x 19 13 : Nat) : Int) := by
  rw [← turn2, ← turn13, ← turn22, ← turn6, ← turn11, ← turn25, ← turn7, ← turn18, ← turn17, ← turn19]
  exact ⟨turn_nat (n := 2) (m := 30) hx (by decide) (by decide) (by decide), turn_nat (n := 13) (m := 19) hx (by decide) (by decide) (by decide), turn_nat (n := 22) (m := 10) hx (by decide) (by decide) (by decide), turn_nat (n := 6) (m := 26) hx (by decide) (by decide) (by decide), turn_nat (n := 11) (m := 21) hx (by decide) (by decide) (by decide), turn_nat (n := 25) (m := 7) hx (by decide) (by decide) (by decide),
    turn_nat (n := 7) (m := 25) hx (by decide) (by decide) (by decide), turn_nat (n := 18) (m := 14) hx (by decide) (by decide) (by decide), turn_nat (n := 17) (m := 15) hx (by decide) (by decide) (by decide), turn_nat (n := 19) (m := 13) hx (by decide) (by decide) (by decide)⟩
theorem sumA_nat {v : Nat → Int} {a : Nat} (h : v 0 = (a : Int)) (ha : B32 a) : sumA v = ((nS0 a : Nat) : Int) := by
  obtain ⟨r2, r13, r22, _⟩ := rotR_nat ha
  rw [sumA, h, r2, r13, r22, xor_nat (rot_lt _ _ ha) (rot_lt _ _ ha), xor_nat (xor_lt (rot_lt _ _ ha) (rot_lt _ _ ha)) (rot_lt _ _ ha)]
  rfl
theorem sumE_nat {v : Nat → Int} {a : Nat} (h : v 4 = (a : Int)) (ha : B32 a) : sumE v = ((nS1 a : Nat) : Int) := by
  obtain ⟨_, _, _, r6, r11, r25, _⟩ := rotR_nat ha
  rw [sumE, h, r6, r11, r25, xor_nat (rot_lt _ _ ha) (rot_lt _ _ ha), xor_nat (xor_lt (rot_lt _ _ ha) (rot_lt _ _ ha)) (rot_lt _ _ ha)]
  rfl
theorem sg0_nat {a : Nat} (ha : B32 a) : sg0 (a : Int) = ((ns0 a : Nat) : Int) := by
  obtain ⟨_, _, _, _, _, _, r7, r18, _⟩ := rotR_nat ha
  rw [sg0, r7, r18, show shrI .u32 (a : Int) 3 = _ from shr32_nat a 3 (by decide), xor_nat (rot_lt _ _ ha) (rot_lt _ _ ha), xor_nat (xor_lt (rot_lt _ _ ha) (rot_lt _ _ ha)) (shr_lt _ ha)]
  rfl
theorem sg1_nat {a : Nat} (ha : B32 a) : sg1 (a : Int) = ((ns1 a : Nat) : Int) := by
  obtain ⟨_, _, _, _, _, _, _, _, r17, r19⟩ := rotR_nat ha
  rw [sg1, r17, r19, show shrI .u32 (a : Int) 10 = _ from shr32_nat a 10 (by decide), xor_nat (rot_lt _ _ ha) (rot_lt _ _ ha), xor_nat (xor_lt (rot_lt _ _ ha) (rot_lt _ _ ha)) (shr_lt _ ha)]
  rfl
theorem chE_nat {v : Nat → Int} {e f g : Nat} (h4 : v 4 = (e : Int)) (h5 : v 5 = (f : Int)) (h6 : v 6 = (g : Int)) (he : B32 e) (hf : B32 f) (hg : B32 g) : chE v = ((nch e f g : Nat) : Int) := by
  have hm : (if IntKind.u32.signed then (-1 : Int) else IntKind.u32.max) = ((4294967295 : Nat) : Int) := by decide
  have h1 : B32 4294967295 := by decide
  rw [chE, h4, h5, h6, hm, and_nat he hf, xor_nat h1 he, and_nat (xor_lt h1 he) hg, xor_nat (and_lt he hf) (and_lt (xor_lt h1 he) hg)]
  rfl
theorem majA_nat {v : Nat → Int} {a b c : Nat} (h0 : v 0 = (a : Int)) (h1 : v 1 = (b : Int)) (h2 : v 2 = (c : Int)) (ha : B32 a) (hb : B32 b) (hc : B32 c) : majA v = ((nmaj a b c : Nat) : Int) := by
  rw [majA, h0, h1, h2, and_nat ha hb, and_nat ha hc, and_nat hb hc, xor_nat (and_lt ha hb) (and_lt ha hc), xor_nat (xor_lt (and_lt ha hb) (and_lt ha hc)) (and_lt hb hc)]
  rfl
structure R8 (v : Nat → Int) (a b c d e f g h : Nat) : Prop where
  (h0 : v 0 = (a : Int)) (h1 : v 1 = (b : Int)) (h2 : v 2 = (c : Int)) (h3 : v 3 = (d : Int)) (h4 : v 4 = (e : Int)) (h5 : v 5 = (f : Int)) (h6 : v 6 = (g : Int)) (h7 : v 7 = (h : Int))
  (l0 : B32 a) (l1 : B32 b) (l2 : B32 c) (l3 : B32 d) (l4 : B32 e) (l5 : B32 f) (l6 : B32 g) (l7 : B32 h)
theorem stT_nat {v : Nat → Int} {a b c d e f g h k w : Nat} (R : R8 v a b c d e f g h) : stT v (k : Int) (w : Int) = ((nT e f g h k w : Nat) : Int) := by
  rw [stT, R.h7, sumE_nat R.h4 R.l4, chE_nat R.h4 R.h5 R.h6 R.l4 R.l5 R.l6, w32_nat, w32_nat, w32_nat, w32_nat]
  congr 1
  show (((((h + nS1 e) % 4294967296 + nch e f g) % 4294967296) + k) % 4294967296 + w) % 4294967296 = (h + nS1 e + nch e f g + k + w) % 4294967296
  omega
theorem step_nat {v : Nat → Int} {a b c d e f g h k w : Nat} (R : R8 v a b c d e f g h) : R8 (stepV v (k : Int) (w : Int)) (Nat.mod (Nat.add (nT e f g h k w) (Nat.add (nS0 a) (nmaj a b c))) 4294967296) a b c (Nat.mod (Nat.add d (nT e f g h k w)) 4294967296) e f g := by
  refine ⟨?_, R.h0, R.h1, R.h2, ?_, R.h4, R.h5, R.h6, mod_lt32 _, R.l0, R.l1, R.l2, mod_lt32 _, R.l4, R.l5, R.l6⟩
  · show w32 (stT v k w) (stU v) = _
    rw [stT_nat R, stU, sumA_nat R.h0 R.l0, majA_nat R.h0 R.h1 R.h2 R.l0 R.l1 R.l2, w32_nat, w32_nat]
    congr 1
    show (nT e f g h k w + (nS0 a + nmaj a b c) % 4294967296) % 4294967296 = (nT e f g h k w + (nS0 a + nmaj a b c)) % 4294967296
    omega
  · show w32 (v 3) (stT v k w) = _
    rw [stT_nat R, R.h3, w32_nat]
    rfl
end Go.Proofs.YtnpkdoggfnlapaaGreatDoor
namespace Go.Proofs.YtnpkdoggfnlapaaGreatDoor
set_option maxRecDepth 100000
open Go.Sx
noncomputable def nrnd {α : Type} (K : Nat → Nat → Nat → Nat → Nat → Nat → Nat → Nat → α) (ks : List Nat) : Nat → Nat → Nat → Nat → Nat → Nat → Nat → Nat → Nat → Nat → Nat → Nat → Nat → Nat → Nat → Nat → Nat → Nat → Nat → Nat → Nat → Nat → Nat → Nat → α :=
  @List.rec Nat (fun _ => Nat → Nat → Nat → Nat → Nat → Nat → Nat → Nat → Nat → Nat → Nat → Nat → Nat → Nat → Nat → Nat → Nat → Nat → Nat → Nat → Nat → Nat → Nat → Nat → α)
    (fun a b c d e f g h _ _ _ _ _ _ _ _ _ _ _ _ _ _ _ _ => K a b c d e f g h)
    (fun k _ ih a b c d e f g h w0 w1 w2 w3 w4 w5 w6 w7 w8 w9 w10 w11 w12 w13 w14 w15 =>
      frc (nT e f g h k w0) fun t => frc (Nat.mod (Nat.add t (Nat.add (nS0 a) (nmaj a b c))) 4294967296) fun a' => frc (Nat.mod (Nat.add d t) 4294967296) fun e' =>
      frc (nmix w0 w1 w9 w14) fun w16 => ih a' a b c e' e f g w1 w2 w3 w4 w5 w6 w7 w8 w9 w10 w11 w12 w13 w14 w15 w16) ks
def ksN : List Nat := [1116352408, 1899447441, 3049323471, 3921009573, 961987163, 1508970993, 2453635748, 2870763221, 3624381080, 310598401, 607225278, 1426881987, 1925078388, 2162078206, 2614888103, 3248222580, 3835390401, 4022224774, 264347078, 604807628, 770255983, 1249150122, 1555081692, 1996064986, 2554220882, 2821834349, 2952996808, 3210313671, 3336571891, 3584528711, 113926993, 338241895, 666307205, 773529912, 1294757372, 1396182291, 1695183700, 1986661051, 2177026350, 2456956037, 2730485921, 2820302411, 3259730800, 3345764771, 3516065817, 3600352804, 4094571909, 275423344, 430227734, 506948616, 659060556, 883997877, 958139571, 1322822218, 1537002063, 1747873779, 1955562222, 2024104815, 2227730452, 2361852424, 2428436474, 2756734187, 3204031479, 3329325298]
noncomputable def nblocks {α : Type} (n : Nat) : List Nat → Nat → Nat → Nat → Nat → Nat → Nat → Nat → Nat → (Nat → Nat → α) → α :=
  @Nat.rec (fun _ => List Nat → Nat → Nat → Nat → Nat → Nat → Nat → Nat → Nat → (Nat → Nat → α) → α)
    (fun _ a b _ _ _ _ _ _ k => k a b)
    (fun _ ih l a b c d e f g h k =>
      frc (l.getD 0 0) fun w0 => frc (l.getD 1 0) fun w1 => frc (l.getD 2 0) fun w2 => frc (l.getD 3 0) fun w3 => frc (l.getD 4 0) fun w4 => frc (l.getD 5 0) fun w5 => frc (l.getD 6 0) fun w6 => frc (l.getD 7 0) fun w7 => frc (l.getD 8 0) fun w8 => frc (l.getD 9 0) fun w9 => frc (l.getD 10 0) fun w10 => frc (l.getD 11 0) fun w11 => frc (l.getD 12 0) fun w12 => frc (l.getD 13 0) fun w13 => frc (l.getD 14 0) fun w14 => frc (l.getD 15 0) fun w15 =>
      nrnd (fun a' b' c' d' e' f' g' h' => frc (nadd a a') fun a => frc (nadd b b') fun b => frc (nadd c c') fun c => frc (nadd d d') fun d => frc (nadd e e') fun e => frc (nadd f f') fun f => frc (nadd g g') fun g => frc (nadd h h') fun h => ih (l.drop 16) a b c d e f g h k)
        ksN a b c d e f g h w0 w1 w2 w3 w4 w5 w6 w7 w8 w9 w10 w11 w12 w13 w14 w15) n
theorem sched_val (b : Nat → UInt8) {n : Nat} : ∀ N, n < N → sched b N n = if n < 16 then word b n else mix (sched b n) n
  | 0, h => absurd h (Nat.not_lt_zero _)
  | N + 1, h => by
    rw [sched_step]
    by_cases e : n = N
    · subst e; rw [if_pos rfl]
    · rw [if_neg e]; exact sched_val b N (by omega)
theorem sched_same (b : Nat → UInt8) {n N N' : Nat} (h : n < N) (h' : n < N') : sched b N n = sched b N' n := by rw [sched_val b N h, sched_val b N' h']
theorem nmix_eq {w0 w1 w9 w14 : Nat} (h1 : B32 w1) (h14 : B32 w14) : w32 (w32 (w32 (w0 : Int) (w9 : Int)) (sg0 (w1 : Int))) (sg1 (w14 : Int)) = ((nmix w0 w1 w9 w14 : Nat) : Int) := by
  rw [sg0_nat h1, sg1_nat h14, w32_nat, w32_nat, w32_nat]
  congr 1
  show (((w0 + w9) % 4294967296 + ns0 w1) % 4294967296 + ns1 w14) % 4294967296 = (w0 + w9 + ns0 w1 + ns1 w14) % 4294967296
  omega
theorem sched_next (b : Nat → UInt8) {n w0 w1 w9 w14 : Nat} (hn : n + 16 < 64) (e0 : sched b 64 n = (w0 : Int)) (e1 : sched b 64 (n + 1) = (w1 : Int)) (e9 : sched b 64 (n + 9) = (w9 : Int)) (e14 : sched b 64 (n + 14) = (w14 : Int)) (h1 : B32 w1) (h14 : B32 w14) : sched b 64 (n + 16) = ((nmix w0 w1 w9 w14 : Nat) : Int) := by
  rw [sched_val b 64 hn, if_neg (by omega), mix, sched_same b (N' := 64) (n := n + 16 - 16) (by omega) (by omega), sched_same b (N' := 64) (n := n + 16 - 7) (by omega) (by omega), sched_same b (N' := 64) (n := n + 16 - 15) (by omega) (by omega), sched_same b (N' := 64) (n := n + 16 - 2) (by omega) (by omega),
    show n + 16 - 16 = n by omega, show n + 16 - 7 = n + 9 by omega, show n + 16 - 15 = n + 1 by omega, show n + 16 - 2 = n + 14 by omega, e0, e1, e9, e14, nmix_eq h1 h14]
theorem stepW_nat : ∀ n, n < 64 → stepW n = ((ksN.getD n 0 : Nat) : Int) := by decide
theorem ksN_drop {n : Nat} (h : n < 64) : ksN.drop n = ksN.getD n 0 :: ksN.drop (n + 1) := by
  have hl : ksN.length = 64 := rfl
  rw [List.drop_eq_getElem_cons (by omega), List.getD_eq_getElem?_getD, List.getElem?_eq_getElem (by omega)]; rfl
def WOk (b : Nat → UInt8) (n : Nat) (ws : Nat → Nat) : Prop := ∀ i, i < 16 → n + i < 64 → sched b 64 (n + i) = (ws i : Int) ∧ B32 (ws i)
theorem nrnd_eq {α : Type} (h0 : Nat → Int) (b : Nat → UInt8) (K : Nat → Nat → Nat → Nat → Nat → Nat → Nat → Nat → α) : ∀ m n, n + m = 64 → ∀ (a b' c d e f g h : Nat), R8 (stepsV h0 b n) a b' c d e f g h → ∀ ws, WOk b n ws →
    ∃ a2 b2 c2 d2 e2 f2 g2 h2, R8 (stepsV h0 b 64) a2 b2 c2 d2 e2 f2 g2 h2 ∧ nrnd K (ksN.drop n) a b' c d e f g h (ws 0) (ws 1) (ws 2) (ws 3) (ws 4) (ws 5) (ws 6) (ws 7) (ws 8) (ws 9) (ws 10) (ws 11) (ws 12) (ws 13) (ws 14) (ws 15) = K a2 b2 c2 d2 e2 f2 g2 h2
  | 0, n, hn, a, b', c, d, e, f, g, h, R, ws, W => by
    obtain rfl : n = 64 := by omega
    exact ⟨a, b', c, d, e, f, g, h, R, rfl⟩
  | m + 1, n, hn, a, b', c, d, e, f, g, h, R, ws, W => by
    rw [ksN_drop (by omega)]
    have hw := W 0 (by decide) (by omega)
    have hR := step_nat (k := ksN.getD n 0) (w := ws 0) R
    rw [← stepW_nat n (by omega), ← (show sched b 64 n = (ws 0 : Int) from hw.1)] at hR
    let ws' : Nat → Nat := fun i => if i < 15 then ws (i + 1) else nmix (ws 0) (ws 1) (ws 9) (ws 14)
    have hW : WOk b (n + 1) ws' := by
      intro i hi hni
      by_cases h15 : i < 15
      · have := W (i + 1) (by omega) (by omega)
        rw [show n + 1 + i = n + (i + 1) by omega]
        simp only [ws', if_pos h15]
        exact this
      · obtain rfl : i = 15 := by omega
        have q0 := W 0 (by decide) (by omega)
        have q1 := W 1 (by decide) (by omega)
        have q9 := W 9 (by decide) (by omega)
        have q14 := W 14 (by decide) (by omega)
        refine ⟨?_, mod_lt32 _⟩
        rw [show n + 1 + 15 = n + 16 by omega]
        exact sched_next b (by omega) q0.1 q1.1 q9.1 q14.1 q1.2 q14.2
    obtain ⟨a2, b2, c2, d2, e2, f2, g2, h2, R2, e2'⟩ := nrnd_eq h0 b K m (n + 1) (by omega) _ _ _ _ _ _ _ _ hR ws' hW
    refine ⟨a2, b2, c2, d2, e2, f2, g2, h2, R2, ?_⟩
    rw [← e2']
    show (frc (nT e f g h (ksN.getD n 0) (ws 0)) fun t => frc (Nat.mod (Nat.add t (Nat.add (nS0 a) (nmaj a b' c))) 4294967296) fun a' => frc (Nat.mod (Nat.add d t) 4294967296) fun e' =>
      frc (nmix (ws 0) (ws 1) (ws 9) (ws 14)) fun w16 => nrnd K (ksN.drop (n + 1)) a' a b' c e' e f g (ws 1) (ws 2) (ws 3) (ws 4) (ws 5) (ws 6) (ws 7) (ws 8) (ws 9) (ws 10) (ws 11) (ws 12) (ws 13) (ws 14) (ws 15) w16) = _
    rw [frc_eq, frc_eq, frc_eq, frc_eq]
    rfl
end Go.Proofs.YtnpkdoggfnlapaaGreatDoor
namespace Go.Proofs.YtnpkdoggfnlapaaGreatDoor
set_option maxRecDepth 100000
open Go.Sx
def w4v (a b c d : UInt8) : Nat := Nat.add (Nat.mul (Nat.add (Nat.mul (Nat.add (Nat.mul a.toNat 256) b.toNat) 256) c.toNat) 256) d.toNat
def w4 : List UInt8 → List Nat
  | a :: b :: c :: d :: r => w4v a b c d :: w4 r
  | _ => []
theorem w4_get : ∀ (i : Nat) (l : List UInt8), 4 * i + 3 < l.length → (w4 l).getD i 0 = w4v (l.getD (4 * i) 0) (l.getD (4 * i + 1) 0) (l.getD (4 * i + 2) 0) (l.getD (4 * i + 3) 0)
  | i, [], h => by simp at h
  | i, [_], h => by simp at h
  | i, [_, _], h => by simp only [List.length_cons, List.length_nil] at h; omega
  | i, [_, _, _], h => by simp only [List.length_cons, List.length_nil] at h; omega
  | 0, a :: b :: c :: d :: r, h => rfl
  | i + 1, a :: b :: c :: d :: r, h => by
    have := w4_get i r (by simp only [List.length_cons] at h; omega)
    show (w4 r).getD i 0 = _
    rw [this]
    rfl
theorem push_nat {w : Nat} (h : w < 16777216) (x : UInt8) : push (w : Int) x = ((Nat.add (Nat.mul w 256) x.toNat : Nat) : Int) := by
  have hx := x.toNat_lt
  have e1 : shlI .u32 (w : Int) 8 = ((Nat.mod (Nat.shiftLeft w 8) 4294967296 : Nat) : Int) := shl32_nat w 8 (by decide)
  have e2 : Nat.mod (Nat.shiftLeft w 8) 4294967296 = w <<< 8 := by
    show (w <<< 8) % 4294967296 = _
    rw [Nat.shiftLeft_eq]; omega
  have e3 : IntKind.u32.wrap (x.toNat : Int) = (x.toNat : Int) := by rw [IntKind.wrap_u32]; omega
  have b1 : B32 (w <<< 8) := by rw [Nat.shiftLeft_eq]; omega
  rw [push, e1, e2, e3, or_nat b1 (by omega)]
  congr 1
  show (w <<< 8) ||| x.toNat = w * 256 + x.toNat
  rw [← Nat.shiftLeft_add_eq_or_of_lt (by omega : x.toNat < 2 ^ 8), Nat.shiftLeft_eq]
theorem word_nat (b : Nat → UInt8) (i : Nat) : word b i = ((w4v (b (4 * i)) (b (4 * i + 1)) (b (4 * i + 2)) (b (4 * i + 3)) : Nat) : Int) ∧ B32 (w4v (b (4 * i)) (b (4 * i + 1)) (b (4 * i + 2)) (b (4 * i + 3))) := by
  have h0 := (b (4 * i)).toNat_lt
  have h1 := (b (4 * i + 1)).toNat_lt
  have h2 := (b (4 * i + 2)).toNat_lt
  have h3 := (b (4 * i + 3)).toNat_lt
  constructor
  · rw [word, show (0 : Int) = ((0 : Nat) : Int) from rfl, push_nat (by decide), push_nat, push_nat, push_nat]
    · show (((((0 * 256 + (b (4 * i)).toNat) * 256 + (b (4 * i + 1)).toNat) * 256 + (b (4 * i + 2)).toNat) * 256 + (b (4 * i + 3)).toNat : Nat) : Int) = _
      rw [Nat.zero_mul, Nat.zero_add]
      rfl
    · show ((0 * 256 + (b (4 * i)).toNat) * 256 + (b (4 * i + 1)).toNat) * 256 + (b (4 * i + 2)).toNat < _
      omega
    · show (0 * 256 + (b (4 * i)).toNat) * 256 + (b (4 * i + 1)).toNat < _
      omega
    · show 0 * 256 + (b (4 * i)).toNat < _
      omega
  · show (((b (4 * i)).toNat * 256 + (b (4 * i + 1)).toNat) * 256 + (b (4 * i + 2)).toNat) * 256 + (b (4 * i + 3)).toNat < _
    omega
theorem added_nat {h0 : Nat → Int} {b : Nat → UInt8} {a b' c d e f g h a2 b2 c2 d2 e2 f2 g2 h2 : Nat} (R : R8 h0 a b' c d e f g h) (R2 : R8 (stepsV h0 b 64) a2 b2 c2 d2 e2 f2 g2 h2) : R8 (blockW h0 b) (nadd a a2) (nadd b' b2) (nadd c c2) (nadd d d2) (nadd e e2) (nadd f f2) (nadd g g2) (nadd h h2) := by
  refine ⟨?_, ?_, ?_, ?_, ?_, ?_, ?_, ?_, mod_lt32 _, mod_lt32 _, mod_lt32 _, mod_lt32 _, mod_lt32 _, mod_lt32 _, mod_lt32 _, mod_lt32 _⟩
  · rw [blockW, R.h0, R2.h0, w32_nat]
  · rw [blockW, R.h1, R2.h1, w32_nat]
  · rw [blockW, R.h2, R2.h2, w32_nat]
  · rw [blockW, R.h3, R2.h3, w32_nat]
  · rw [blockW, R.h4, R2.h4, w32_nat]
  · rw [blockW, R.h5, R2.h5, w32_nat]
  · rw [blockW, R.h6, R2.h6, w32_nat]
  · rw [blockW, R.h7, R2.h7, w32_nat]
theorem getD_drop {E : Type} (l : List E) (n i : Nat) (d : E) : (l.drop n).getD i d = l.getD (n + i) d := by rw [List.getD_eq_getElem?_getD, List.getElem?_drop, ← List.getD_eq_getElem?_getD]
theorem nblocks_eq {α : Type} (l : List UInt8) (k : Nat → Nat → α) : ∀ m t, t + m = blocksN l → ∀ (a b c d e f g h : Nat), R8 (stateH l t) a b c d e f g h →
    ∃ x y : Nat, stateH l (blocksN l) 0 = (x : Int) ∧ stateH l (blocksN l) 1 = (y : Int) ∧ nblocks m ((w4 (padL l)).drop (16 * t)) a b c d e f g h k = k x y
  | 0, t, ht, a, b, c, d, e, f, g, h, R => by
    obtain rfl : t = blocksN l := by omega
    exact ⟨a, b, R.h0, R.h1, rfl⟩
  | m + 1, t, ht, a, b, c, d, e, f, g, h, R => by
    have hbl := blocks_eq l
    let ws : Nat → Nat := fun i => ((w4 (padL l)).drop (16 * t)).getD i 0
    have hW : WOk (blockAt l t) 0 ws := by
      intro i hi _
      have hg : ws i = w4v (blockAt l t (4 * i)) (blockAt l t (4 * i + 1)) (blockAt l t (4 * i + 2)) (blockAt l t (4 * i + 3)) := by
        show ((w4 (padL l)).drop (16 * t)).getD i 0 = _
        rw [getD_drop, w4_get _ _ (by omega)]
        simp only [blockAt, show 4 * (16 * t + i) = 64 * t + 4 * i by omega, Nat.add_assoc]
      have hw := word_nat (blockAt l t) i
      rw [hg, Nat.zero_add, sched_val _ 64 (by omega), if_pos hi]
      exact hw
    let K : Nat → Nat → Nat → Nat → Nat → Nat → Nat → Nat → α := fun a' b' c' d' e' f' g' h' => frc (nadd a a') fun a => frc (nadd b b') fun b => frc (nadd c c') fun c => frc (nadd d d') fun d => frc (nadd e e') fun e => frc (nadd f f') fun f => frc (nadd g g') fun g => frc (nadd h h') fun h => nblocks m (((w4 (padL l)).drop (16 * t)).drop 16) a b c d e f g h k
    obtain ⟨a2, b2, c2, d2, e2, f2, g2, h2, R2, hK⟩ := nrnd_eq (stateH l t) (blockAt l t) K 64 0 rfl a b c d e f g h R ws hW
    have hR : R8 (stateH l (t + 1)) _ _ _ _ _ _ _ _ := added_nat R R2
    obtain ⟨x, y, q1, q2, q3⟩ := nblocks_eq l k m (t + 1) (by omega) _ _ _ _ _ _ _ _ hR
    refine ⟨x, y, q1, q2, ?_⟩
    rw [← q3]
    have e1 : nblocks (m + 1) ((w4 (padL l)).drop (16 * t)) a b c d e f g h k = nrnd K (ksN.drop 0) a b c d e f g h (ws 0) (ws 1) (ws 2) (ws 3) (ws 4) (ws 5) (ws 6) (ws 7) (ws 8) (ws 9) (ws 10) (ws 11) (ws 12) (ws 13) (ws 14) (ws 15) := by
      show (frc (ws 0) fun w0 => frc (ws 1) fun w1 => frc (ws 2) fun w2 => frc (ws 3) fun w3 => frc (ws 4) fun w4 => frc (ws 5) fun w5 => frc (ws 6) fun w6 => frc (ws 7) fun w7 => frc (ws 8) fun w8 => frc (ws 9) fun w9 => frc (ws 10) fun w10 => frc (ws 11) fun w11 => frc (ws 12) fun w12 => frc (ws 13) fun w13 => frc (ws 14) fun w14 => frc (ws 15) fun w15 => nrnd K ksN a b c d e f g h w0 w1 w2 w3 w4 w5 w6 w7 w8 w9 w10 w11 w12 w13 w14 w15) = _
      simp only [frc_eq]
      rfl
    rw [e1, hK]
    show (frc (nadd a a2) fun a => frc (nadd b b2) fun b => frc (nadd c c2) fun c => frc (nadd d d2) fun d => frc (nadd e e2) fun e => frc (nadd f f2) fun f => frc (nadd g g2) fun g => frc (nadd h h2) fun h => nblocks m (((w4 (padL l)).drop (16 * t)).drop 16) a b c d e f g h k) = _
    simp only [frc_eq]
    rw [List.drop_drop, show 16 * t + 16 = 16 * (t + 1) by omega]
def h8of (x y : Nat) : H8 := ⟨UInt8.ofNat (Nat.shiftRight x 24), UInt8.ofNat (Nat.shiftRight x 16), UInt8.ofNat (Nat.shiftRight x 8), UInt8.ofNat x, UInt8.ofNat (Nat.shiftRight y 24), UInt8.ofNat (Nat.shiftRight y 16), UInt8.ofNat (Nat.shiftRight y 8), UInt8.ofNat y⟩
noncomputable def fsum {α : Type} (l : List UInt8) (k : H8 → α) : α := nblocks (blocksN l) (w4 (padL l)) 1779033703 3144134277 1013904242 2773480762 1359893119 2600822924 528734635 1541459225 fun x y => k (h8of x y)
noncomputable def fdig {α : Type} (p : UInt8) (bss : List (List UInt8)) (k : H8 → α) : α := fsum (encAll p bss) k
theorem byte_nat (x n : Nat) (hn : n ≤ 32) : byteI (IntKind.u8.wrap (shrI .u32 (x : Int) (n : Int))) = UInt8.ofNat (Nat.shiftRight x n) := by
  rw [shr32_nat x n hn, IntKind.wrap_u8, byteI]
  apply UInt8.toNat_inj.1
  rw [UInt8.toNat_ofNat', UInt8.toNat_ofNat']
  omega
theorem fdig_eq {α : Type} (p : UInt8) (bss : List (List UInt8)) (k : H8 → α) : fdig p bss k = k (dig p bss) := by
  have h0 : R8 (stateH (encAll p bss) 0) 1779033703 3144134277 1013904242 2773480762 1359893119 2600822924 528734635 1541459225 := by
    constructor <;> first | rfl | decide
  obtain ⟨x, y, hx, hy, hk⟩ := nblocks_eq (encAll p bss) (fun x y => k (h8of x y)) (blocksN (encAll p bss)) 0 (Nat.zero_add _) _ _ _ _ _ _ _ _ h0
  rw [fdig, fsum]
  refine hk.trans (congrArg k ?_)
  have b := byte_nat
  have s0 : ∀ z : Nat, Nat.shiftRight z 0 = z := fun _ => rfl
  have f : ∀ j : Nat, j < 8 → shaB (encAll p bss) j = UInt8.ofNat (Nat.shiftRight (if j < 4 then x else y) (24 - j % 4 * 8)) := by
    intro j hj
    rw [shaB]
    by_cases h4 : j < 4
    · rw [show j / 4 = 0 by omega, hx, if_pos h4, byte_nat _ _ (by omega)]
    · rw [show j / 4 = 1 by omega, hy, if_neg h4, byte_nat _ _ (by omega)]
  rw [dig, f 0 (by decide), f 1 (by decide), f 2 (by decide), f 3 (by decide), f 4 (by decide), f 5 (by decide), f 6 (by decide), f 7 (by decide)]
  rfl
end Go.Proofs.YtnpkdoggfnlapaaGreatDoor
namespace Go.Proofs.YtnpkdoggfnlapaaGreatDoor
set_option maxRecDepth 100000
open Go.Sx
noncomputable def fsecret {α : Type} (seed : H8) (idx i b : Nat) (k : H8 → α) : α := fdig 115 [seed.l, [byteI (IntKind.u8.wrap (idx : Int)), byteI (IntKind.u8.wrap (i : Int)), byteI (IntKind.u8.wrap (b : Int)), 0]] k
theorem fsecret_eq {α : Type} (seed : H8) (idx i b : Nat) (k : H8 → α) : fsecret seed idx i b k = k (secretH seed (idx : Int) (i : Int) (b : Int)) := fdig_eq _ _ _
noncomputable def fmark {α : Type} (h : H8) (k : H8 → α) : α := fdig 112 [h.l] k
theorem fmark_eq {α : Type} (h : H8) (k : H8 → α) : fmark h k = k (markH h) := fdig_eq _ _ _
noncomputable def fall {α : Type} (seed : H8) (idx : Nat) (n : Nat) : Nat → List UInt8 → (List UInt8 → α) → α :=
  @Nat.rec (fun _ => Nat → List UInt8 → (List UInt8 → α) → α) (fun _ acc k => k acc)
    (fun _ ih i acc k => fsecret seed idx i 0 fun s0 => fmark s0 fun m0 => fsecret seed idx i 1 fun s1 => fmark s1 fun m1 => ih (Nat.succ i) (acc ++ m0.l ++ m1.l) k) n
theorem fall_eq {α : Type} (seed : H8) (idx : Nat) (k : List UInt8 → α) : ∀ n i, fall seed idx n i (allB (fun i b => markH (secretH seed (idx : Int) (i : Int) (b : Int))) i) k = k (allB (fun i b => markH (secretH seed (idx : Int) (i : Int) (b : Int))) (i + n))
  | 0, i => rfl
  | n + 1, i => by
    show (fsecret seed idx i 0 fun s0 => fmark s0 fun m0 => fsecret seed idx i 1 fun s1 => fmark s1 fun m1 => fall seed idx n (Nat.succ i) (allB (fun i b => markH (secretH seed (idx : Int) (i : Int) (b : Int))) i ++ m0.l ++ m1.l) k) = _
    rw [fsecret_eq, fmark_eq, fsecret_eq, fmark_eq]
    rw [show i + (n + 1) = (i + 1) + n by omega]
    exact fall_eq seed idx k n (i + 1)
noncomputable def fpub {α : Type} (seed : H8) (idx : Nat) (k : H8 → α) : α := fall seed idx 16 0 [] fun l => fdig 107 [l] k
theorem fpub_eq {α : Type} (seed : H8) (idx : Nat) (k : H8 → α) : fpub seed idx k = k (pubS seed idx) := by
  have := fall_eq seed idx (fun l => fdig 107 [l] k) 16 0
  rw [fpub]
  refine this.trans ?_
  rw [fdig_eq]
  rfl
noncomputable def ftree {α : Type} (seed : H8) (k : H8 → α) : α :=
  fpub seed 0 fun p0 => fpub seed 1 fun p1 => fpub seed 2 fun p2 => fpub seed 3 fun p3 => fpub seed 4 fun p4 => fpub seed 5 fun p5 => fpub seed 6 fun p6 => fpub seed 7 fun p7 =>
  fdig 108 [p0.l] fun l0 => fdig 108 [p1.l] fun l1 => fdig 108 [p2.l] fun l2 => fdig 108 [p3.l] fun l3 => fdig 108 [p4.l] fun l4 => fdig 108 [p5.l] fun l5 => fdig 108 [p6.l] fun l6 => fdig 108 [p7.l] fun l7 =>
  fdig 109 [l0.l, l1.l] fun a => fdig 109 [l2.l, l3.l] fun b => fdig 109 [l4.l, l5.l] fun c => fdig 109 [l6.l, l7.l] fun d => fdig 109 [a.l, b.l] fun x => fdig 109 [c.l, d.l] fun y => fdig 109 [x.l, y.l] k
theorem ftree_eq {α : Type} (seed : H8) (k : H8 → α) : ftree seed k = k (treeH seed) := by
  rw [ftree]
  simp only [fpub_eq, fdig_eq]
  refine congrArg k ?_
  have h8 : halfN 8 = 4 := rfl
  have h4 : halfN 4 = 2 := rfl
  have h2 : halfN 2 = 1 := rfl
  rw [treeH, rootN_step (n := 8) (by decide), h8, rootN_step (n := 4) (by decide), h4, rootN_step (n := 2) (by decide), h2]
  simp only [show 8 - 4 = 4 from rfl, show 4 - 2 = 2 from rfl, show 2 - 1 = 1 from rfl]
  rw [rootN_step (n := 4) (by decide), h4]
  simp only [show 4 - 2 = 2 from rfl, rootN_step (n := 2) (by decide), h2, show 2 - 1 = 1 from rfl]
  rfl
end Go.Proofs.YtnpkdoggfnlapaaGreatDoor
namespace Go.Proofs.YtnpkdoggfnlapaaGreatDoor
set_option maxRecDepth 100000
open Go.Sx
def isH (c h : H8) : Bool := Nat.beq h.b0.toNat c.b0.toNat && (Nat.beq h.b1.toNat c.b1.toNat && (Nat.beq h.b2.toNat c.b2.toNat && (Nat.beq h.b3.toNat c.b3.toNat && (Nat.beq h.b4.toNat c.b4.toNat && (Nat.beq h.b5.toNat c.b5.toNat && (Nat.beq h.b6.toNat c.b6.toNat && Nat.beq h.b7.toNat c.b7.toNat))))))
theorem of_isH {c h : H8} (e : isH c h = true) : h = c := by
  obtain ⟨a0, a1, a2, a3, a4, a5, a6, a7⟩ := h
  obtain ⟨c0, c1, c2, c3, c4, c5, c6, c7⟩ := c
  simp only [isH, Bool.and_eq_true, nbeq, decide_eq_true_eq, UInt8.toNat_inj] at e
  obtain ⟨rfl, rfl, rfl, rfl, rfl, rfl, rfl, rfl⟩ := e
  rfl
end Go.Proofs.YtnpkdoggfnlapaaGreatDoor
namespace Go.Proofs.YtnpkdoggfnlapaaGreatDoor
set_option maxRecDepth 100000
open Go.Sx
theorem qroot0_test : ftree ⟨113, 0, 0, 0, 0, 0, 0, 0⟩ (isH ⟨42, 27, 56, 72, 149, 84, 97, 106⟩) = true := by kernel_rfl
theorem qroot0 : treeH ⟨113, 0, 0, 0, 0, 0, 0, 0⟩ = ⟨42, 27, 56, 72, 149, 84, 97, 106⟩ := of_isH ((ftree_eq _ (isH ⟨42, 27, 56, 72, 149, 84, 97, 106⟩)).symm.trans qroot0_test)
theorem qroot1_test : ftree ⟨113, 1, 0, 0, 0, 0, 0, 0⟩ (isH ⟨198, 66, 121, 243, 225, 231, 225, 136⟩) = true := by kernel_rfl
theorem qroot1 : treeH ⟨113, 1, 0, 0, 0, 0, 0, 0⟩ = ⟨198, 66, 121, 243, 225, 231, 225, 136⟩ := of_isH ((ftree_eq _ (isH ⟨198, 66, 121, 243, 225, 231, 225, 136⟩)).symm.trans qroot1_test)
theorem qroot2_test : ftree ⟨113, 2, 0, 0, 0, 0, 0, 0⟩ (isH ⟨103, 242, 72, 14, 141, 212, 250, 235⟩) = true := by kernel_rfl
theorem qroot2 : treeH ⟨113, 2, 0, 0, 0, 0, 0, 0⟩ = ⟨103, 242, 72, 14, 141, 212, 250, 235⟩ := of_isH ((ftree_eq _ (isH ⟨103, 242, 72, 14, 141, 212, 250, 235⟩)).symm.trans qroot2_test)
end Go.Proofs.YtnpkdoggfnlapaaGreatDoor
namespace Go.Proofs.YtnpkdoggfnlapaaGreatDoor
set_option maxRecDepth 100000
open Go.Sx
theorem qseed0 : qseed (0 : Nat) = ⟨113, 0, 0, 0, 0, 0, 0, 0⟩ := rfl
theorem qseed1 : qseed (1 : Nat) = ⟨113, 1, 0, 0, 0, 0, 0, 0⟩ := rfl
theorem qseed2 : qseed (2 : Nat) = ⟨113, 2, 0, 0, 0, 0, 0, 0⟩ := rfl
theorem qkeys3 : qkeys 3 = [⟨42, 27, 56, 72, 149, 84, 97, 106⟩, ⟨198, 66, 121, 243, 225, 231, 225, 136⟩, ⟨103, 242, 72, 14, 141, 212, 250, 235⟩] := by
  rw [show (3 : Nat) = 2 + 1 from rfl, qkeys_succ, show (2 : Nat) = 1 + 1 from rfl, qkeys_succ, show (1 : Nat) = 0 + 1 from rfl, qkeys_succ]
  rw [qseed0, qroot0, show qseed ((0 + 1 : Nat) : Int) = _ from qseed1, qroot1, show qseed ((0 + 1 + 1 : Nat) : Int) = _ from qseed2, qroot2]
  rfl
def mp : ParM := madeP 3 2
theorem mp_ok : parB mp = true := by
  rw [mp, madeP, qkeys3]
  decide
theorem mp_len : mp.keys.length = 3 := qkeys_len 3
def sideA : SideM := sideOf mp 3
def sideN (m : Int) : SideM := fwdX sideA m
def fillL (money : List Int) (i : Nat) : List SideM := (List.range i).map fun k : Nat => sideN (money.getD k 0)
theorem fillL_len (money : List Int) (i : Nat) : (fillL money i).length = i := by simp [fillL]
theorem fillL_succ (money : List Int) (i : Nat) : (fillL money i ++ [sideA]).set i (fwdX ((fillL money i ++ [sideA]).getD i default) (money.getD i 0)) = fillL money (i + 1) := by
  have h1 : (fillL money i ++ [sideA]).getD i default = sideA := by
    rw [List.getD_eq_getElem?_getD, List.getElem?_append_right (by rw [fillL_len]; exact Nat.le_refl _), fillL_len, Nat.sub_self]; rfl
  have h2 : (fillL money i ++ [sideA]).set i (sideN (money.getD i 0)) = fillL money i ++ [sideN (money.getD i 0)] := by
    rw [List.set_append, fillL_len, if_neg (Nat.lt_irrefl i), Nat.sub_self]; rfl
  rw [h1]
  show (fillL money i ++ [sideA]).set i (sideN _) = _
  rw [h2, fillL, fillL, List.range_succ, List.map_append]; rfl
def fill14Pack (L : List SideM) : List Chunk := [.abs (pReg L), .abs (rReg L)]
def f14St (money : List Int) (i : Nat) (L : List SideM) : St :=
  ⟨[some (XV.sv (.slc 0 1 0 money.length)), none, none, none, some (XV.sv (.ptr 1 0 0 0)), some (XV.sv (.ptr 2 0 0 0)), some (XV.int .i64 i)] ++ List.replicate 39 none, [(0, .ro 1 money.length (intsF money)), (1, .abs (pReg L)), (2, .abs (rReg L))], 3⟩
set_option maxHeartbeats 4000000 in
theorem fill14_can (money : List Int) (hm : money.length ≤ 8) : Makes Tryz.prog 29 [.row 1 money.length (intsF money)] [] (.tup [.one (.inn 0 0), .one (.inn 0 1)]) (.abs (PackP (fill14Pack (fillL money money.length)))) := by
  refine Makes.of Tryz.T_ok Tryz.func29 rfl _ _ _ _ rfl rfl rfl rfl 19 (fun C hC => ?_)
  (replace hC : C.n0 = 1 := hC; change Tri _ _ _ ⟨_, _, 1⟩ _)
  (refine Tri.cut 2 Tryz.mixed Tryz.T_ok ?_; ((conv => arg 5; whnf); repeat (refine xS ?_; conv => arg 5; whnf)))
  (apply wP; exact (call_op rfl (entersB_of Tryz.func62 (by kernel_rfl)) rfl (regNew_spec)); ((conv => arg 5; whnf); repeat (refine xS ?_; conv => arg 5; whnf)))
  refine wD <| cutG <| Tri.ent (Reg.shuts0 rrS rrE 5 rfl) <| Tri.seq ?_
  (refine Tri.cut 1 Tryz.mixed Tryz.T_ok ?_; ((conv => arg 5; whnf); repeat (refine xS ?_; conv => arg 5; whnf)))
  refine wD <| cutG <| Tri.block ?_
  refine Tri.loop (α := { i : Nat // i ≤ money.length }) (fun i => f14St money i.1 (fillL money i.1)) (fun i => money.length - i.1) ⟨0, Nat.zero_le _⟩ ?_ ?_
  · unfold f14St
    ((try dsimp only); refine Ent.renC [0, 3, 5] hC ?_ ?_ <;> repeat' (first | exact trivial | exact rfl | exact ⟨_, rfl, rfl, rfl, Nat.le_refl _, fun _ _ => rfl⟩ | exact ⟨_, rfl, rfl, rfl, fun _ _ => rfl⟩ | exact ⟨_, rfl, rfl, rfl⟩ | exact ⟨_, rfl, rfl⟩ | refine ⟨_, rfl, rfl, rfl, by omega, fun k hk => ?_⟩ | refine ⟨?_, ?_⟩ | fail))
  rintro ⟨i, hi⟩
  dsimp only
  have hs := fillL_succ money i
  have hl := fillL_len money i
  obtain ⟨L, hL⟩ : ∃ L, fillL money i = L := ⟨_, rfl⟩
  rw [hL] at hs hl ⊢
  unfold f14St
  (refine Tri.cut 1 Tryz.mixed Tryz.T_ok ?_; ((conv => arg 5; whnf); repeat (refine xS ?_; conv => arg 5; whnf)))
  refine wC (fun h1 => ?_) (fun h1 => ?_)
  · (refine wGo ?_; ((conv => arg 5; whnf); repeat (refine xS ?_; conv => arg 5; whnf)))
    have h1' : i < money.length := (by (try simp only [ww] at *); omega)
    have hw : IntKind.i64.wrap ((i : Int) + 1) = ((i + 1 : Nat) : Int) := (by (try simp only [ww] at *); omega)
    have hLA : (L ++ [sideA]).length = i + 1 := by rw [List.length_append, hl]; rfl
    have hmk : mp.keys.length ≤ 1000000 := by rw [mp_len]; decide
    (refine wTd ?_ ?_; (first | refine decide_eq_true ?_ | rw [beq_iff_eq] | rw [bne_iff_ne]); exact (by (try simp only [ww] at *); omega); refine wGo ?_; ((conv => arg 5; whnf); repeat (refine xS ?_; conv => arg 5; whnf)))
    refine wD <| cutG <| Tri.seq <| Tri.block <| Tri.of Tryz.mixed Tryz.T_ok ?_
    (refine wBegin ?_; ((conv => arg 5; whnf); repeat (refine xS ?_; conv => arg 5; whnf)))
    (apply wP; exact (call_op rfl (entersB_of Tryz.func64 (by kernel_rfl)) rfl ((made_can 3 (by decide) 2).at [] ⟨lend_plain rfl, lend_plain rfl, trivial⟩ trivial)); ((conv => arg 5; whnf); repeat (refine xS ?_; conv => arg 5; whnf)))
    (apply wP; exact (call_op rfl (entersB_of Tryz.func63 (by kernel_rfl)) rfl ((create_can L mp 3 hmk (by omega) mp_ok).at [16] rfl rfl rfl ⟨lend_par (p := mp) (lend_vecN (lo := 0) mp_len.symm rfl rfl (Nat.le_of_eq ((Nat.zero_add _).trans mp_len)) (fun i _ => by rw [Nat.zero_add]; rfl)), lend_plain rfl, trivial⟩ trivial)); ((conv => arg 5; whnf); repeat (refine xS ?_; conv => arg 5; whnf)))
    (apply wP; exact (call_op rfl (entersB_of Tryz.func64 (by kernel_rfl)) rfl ((made_can 3 (by decide) 2).at [] ⟨lend_plain rfl, lend_plain rfl, trivial⟩ trivial)); ((conv => arg 5; whnf); repeat (refine xS ?_; conv => arg 5; whnf)))
    (apply wP; exact (call_op rfl (entersB_of Tryz.func65 (by kernel_rfl)) rfl ((rcreate_can L mp 3 hmk (by omega) mp_ok).at [19] rfl rfl rfl ⟨lend_par (p := mp) (lend_vecN (lo := 0) mp_len.symm rfl rfl (Nat.le_of_eq ((Nat.zero_add _).trans mp_len)) (fun i _ => by rw [Nat.zero_add]; rfl)), lend_plain rfl, trivial⟩ trivial)); ((conv => arg 5; whnf); repeat (refine xS ?_; conv => arg 5; whnf)))
    (repeat (refine wN ?_ ?_; exact (by (try simp only [ww] at *); omega); refine wGo ?_; ((conv => arg 5; whnf); repeat (refine xS ?_; conv => arg 5; whnf))))
    simp only [Nat.zero_add, Int.toNat_natCast]
    (apply wP; exact (call_op rfl (entersB_of Tryz.func66 (by kernel_rfl)) rfl ((forward_in (L ++ [sideA]) i (by omega) 1 ⟨1, 0, 0, 0, 0, 0, 0, 0⟩ (money.getD i 0)).at [] rfl rfl rfl ⟨lend_plain rfl, trivial⟩ trivial)); ((conv => arg 5; whnf); repeat (refine xS ?_; conv => arg 5; whnf)))
    (apply wP; exact (call_op rfl (entersB_of Tryz.func67 (by kernel_rfl)) rfl ((rforward_in (L ++ [sideA]) i (by omega) 1 ⟨1, 0, 0, 0, 0, 0, 0, 0⟩ (money.getD i 0)).at [] rfl rfl rfl ⟨lend_plain rfl, trivial⟩ trivial)); ((conv => arg 5; whnf); repeat (refine xS ?_; conv => arg 5; whnf)))
    refine wD <| blockN <| cutG <| Tri.of Tryz.mixed Tryz.T_ok ?_
    (refine wBegin ?_; ((conv => arg 5; whnf); repeat (refine xS ?_; conv => arg 5; whnf)))
    refine wD <| loopN ⟨⟨i + 1, h1'⟩, by dsimp only; omega, ?_⟩
    rw [hw]
    dsimp only
    rw [← hs]
    ((try dsimp only); refine Ent.renC [0, 1, 2] hC ?_ ?_ <;> repeat' (first | exact trivial | exact rfl | exact ⟨_, rfl, rfl, rfl, Nat.le_refl _, fun _ _ => rfl⟩ | exact ⟨_, rfl, rfl, rfl, fun _ _ => rfl⟩ | exact ⟨_, rfl, rfl, rfl⟩ | exact ⟨_, rfl, rfl⟩ | refine ⟨_, rfl, rfl, rfl, by omega, fun k hk => ?_⟩ | refine ⟨?_, ?_⟩ | fail))
  · (refine wGo ?_; ((conv => arg 5; whnf); repeat (refine xS ?_; conv => arg 5; whnf)))
    have h1' : i = money.length := (by (try simp only [ww] at *); omega)
    subst h1'
    rw [hL]
    refine wD <| cutE <| loopX <| blockX <| cutG <| Tri.of Tryz.mixed Tryz.T_ok ?_
    (refine wBegin ?_; ((conv => arg 5; whnf); repeat (refine xS ?_; conv => arg 5; whnf)))
    refine wD (Ends.made (.inr rfl) (Ent.pack [1, 2] (fill14Pack L) (by decide) rfl rfl (fun j i ch hi hj => ?_)) rfl (Nat.le_of_ble_eq_true rfl) rfl)
    rcases j with _ | _ | j
    · cases hi; cases hj; exact ⟨_, rfl, ChLe.refl _ rfl⟩
    · cases hi; cases hj; exact ⟨_, rfl, ChLe.refl _ rfl⟩
    · cases hi
end Go.Proofs.YtnpkdoggfnlapaaGreatDoor
