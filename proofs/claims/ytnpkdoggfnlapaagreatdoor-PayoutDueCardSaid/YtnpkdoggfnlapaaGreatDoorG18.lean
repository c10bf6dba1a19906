/- Parts Ba Td Te Tf Tg Th Ti Tj Tk Tn Vt Lb. -/
import Derived.Test.YtnpkdoggfnlapaaGreatDoorG17
import Derived.Test.YtnpkdoggfnlapaaGreatDoorG16
import Derived.Shelf.Lays2
import Derived.Ground.Names2Prog
import Derived.Test.YtnpkdoggfnlapaaGreatDoorProg
set_option linter.unusedSimpArgs false
set_option linter.unusedVariables false
namespace Go.Proofs.YtnpkdoggfnlapaaGreatDoor
set_option maxRecDepth 100000
open Go.Sx
theorem rwithin_can (n a b : Int) : Reads Tryz.prog 61 [.plain (.one (.raw (.int .i64 n))), .plain (.one (.raw (.int .i64 a))), .plain (.one (.raw (.int .i64 b)))] [] (XV.bool (withinB n a b)) := by
  refine Reads.of Tryz.T_ok Tryz.func61 rfl _ _ _ rfl rfl (fun C hC => ?_)
  (replace hC : C.n0 = 3 := hC; change Tri _ _ _ ⟨_, _, 3⟩ _)
  refine Tri.of Tryz.mixed Tryz.T_ok ?_
  (refine xB ?_)
  refine wC (fun h => ?_) (fun h => ?_)
  · (refine xG ?_)
    exact wD (Ends.plain (.inr rfl) rfl (by rw [withinB, h]; rfl))
  · (refine xG ?_)
    exact wD (Ends.plain (.inr rfl) rfl (by rw [withinB, h]; rfl))
def timedB (x : SideM) : Bool := withinB x.par.len 1 64 && (withinB x.par.win 0 64 && withinB x.made 0 400)
theorem timed_iff {x : SideM} : timedB x = true ↔ (1 ≤ x.par.len ∧ x.par.len ≤ 64) ∧ (0 ≤ x.par.win ∧ x.par.win ≤ 64) ∧ (0 ≤ x.made ∧ x.made ≤ 400) := by
  simp only [timedB, withinB, Bool.and_eq_true, decide_eq_true_eq]
set_option maxHeartbeats 4000000 in
theorem timed_can (x : SideM) : Reads Tryz.prog 60 [.box x.ac] [] (XV.bool (timedB x)) := by
  refine Reads.of Tryz.T_ok Tryz.func60 rfl _ _ _ rfl rfl (fun C hC => ?_)
  (replace hC : C.n0 = 4 := hC; change Tri _ _ _ ⟨_, _, 4⟩ _)
  refine Tri.of Tryz.mixed Tryz.T_ok ?_
  (refine xB ?_)
  (apply wP; exact (call_op rfl (entersB_of Tryz.func61 (by kernel_rfl)) rfl ((rwithin_can x.par.len 1 64).at [] ⟨lend_plain rfl, lend_plain rfl, lend_plain rfl, trivial⟩ trivial)); refine xZ ?_)
  refine wC (fun h => ?_) (fun h => ?_)
  · (refine xG ?_)
    (apply wP; exact (call_op rfl (entersB_of Tryz.func61 (by kernel_rfl)) rfl ((rwithin_can x.par.win 0 64).at [] ⟨lend_plain rfl, lend_plain rfl, lend_plain rfl, trivial⟩ trivial)); refine xZ ?_)
    refine wC (fun h2 => ?_) (fun h2 => ?_)
    · (refine xG ?_)
      (apply wP; exact (call_op rfl (entersB_of Tryz.func61 (by kernel_rfl)) rfl ((rwithin_can x.made 0 400).at [] ⟨lend_plain rfl, lend_plain rfl, lend_plain rfl, trivial⟩ trivial)); refine xZ ?_)
      exact wD (Ends.plain (.inr rfl) rfl (by rw [timedB, h, h2]; rfl))
    · (refine xG ?_)
      exact wD (Ends.plain (.inr rfl) rfl (by rw [timedB, h, h2]; rfl))
  · (refine xG ?_)
    exact wD (Ends.plain (.inr rfl) rfl (by rw [timedB, h]; rfl))
def wr (n : Int) : Int := IntKind.i64.wrap n
def epochX (x : SideM) (h : Int) : Int × Bool := if (!timedB x || decide (h ≤ x.made)) = true then (0, false) else (wr ((wr (wr (h - x.made) - 1)).tdiv x.par.len), true)
set_option maxHeartbeats 4000000 in
theorem epoch_can (x : SideM) (h : Int) : Reads Tryz.prog 59 [.box x.ac, .plain (.one (.raw (.int .i64 h)))] [] (.tup [.one (.raw (.int .i64 (epochX x h).1)), .one (.raw (.bool (epochX x h).2))]) := by
  refine Reads.of Tryz.T_ok Tryz.func59 rfl _ _ _ rfl rfl (fun C hC => ?_)
  (replace hC : C.n0 = 5 := hC; change Tri _ _ _ ⟨_, _, 5⟩ _)
  have ht := timed_can x
  refine Tri.of Tryz.mixed Tryz.T_ok ?_
  (refine xB ?_)
  cases hb : timedB x with
  | false =>
    rw [hb] at ht
    (apply wP; exact (call_op rfl (entersB_of Tryz.func60 (by kernel_rfl)) rfl (ht.at [0, 1, 2, 3] ⟨lend_side (x := x) (lend_ro0 rfl rfl) (lend_ro0 rfl rfl) (lend_ro0 rfl rfl) (lend_ro0 rfl rfl), trivial⟩ trivial)); refine xZ ?_)
    exact wD (Ends.plain (.inr rfl) rfl (by rw [epochX, hb]; rfl))
  | true =>
    rw [hb] at ht
    have htm := timed_iff.1 hb
    (apply wP; exact (call_op rfl (entersB_of Tryz.func60 (by kernel_rfl)) rfl (ht.at [0, 1, 2, 3] ⟨lend_side (x := x) (lend_ro0 rfl rfl) (lend_ro0 rfl rfl) (lend_ro0 rfl rfl) (lend_ro0 rfl rfl), trivial⟩ trivial)); refine xZ ?_)
    refine wC (fun h1 => ?_) (fun h1 => ?_)
    · (refine xG ?_)
      exact wD (Ends.plain (.inr rfl) rfl (by rw [epochX, hb, h1]; rfl))
    · (refine xG ?_)
      refine wN (show x.par.len ≠ 0 by omega) ?_
      (refine xG ?_)
      exact wD (Ends.plain (.inr rfl) rfl (by rw [epochX, hb, h1]; rfl))
def endsX (x : SideM) (e : Int) : Int := if (!timedB x || !withinB e 0 400) = true then 0 else wr (x.made + wr (wr (e + 1) * x.par.len))
set_option maxHeartbeats 4000000 in
theorem ends_can (x : SideM) (e : Int) : Reads Tryz.prog 28 [.box x.ac, .plain (.one (.raw (.int .i64 e)))] [] (XV.int .i64 (endsX x e)) := by
  refine Reads.of Tryz.T_ok Tryz.func28 rfl _ _ _ rfl rfl (fun C hC => ?_)
  (replace hC : C.n0 = 5 := hC; change Tri _ _ _ ⟨_, _, 5⟩ _)
  have ht := timed_can x
  refine Tri.of Tryz.mixed Tryz.T_ok ?_
  (refine xB ?_)
  cases hb : timedB x with
  | false =>
    rw [hb] at ht
    (apply wP; exact (call_op rfl (entersB_of Tryz.func60 (by kernel_rfl)) rfl (ht.at [0, 1, 2, 3] ⟨lend_side (x := x) (lend_ro0 rfl rfl) (lend_ro0 rfl rfl) (lend_ro0 rfl rfl) (lend_ro0 rfl rfl), trivial⟩ trivial)); refine xZ ?_)
    exact wD (Ends.plain (.inr rfl) rfl (by rw [endsX, hb]; rfl))
  | true =>
    rw [hb] at ht
    (apply wP; exact (call_op rfl (entersB_of Tryz.func60 (by kernel_rfl)) rfl (ht.at [0, 1, 2, 3] ⟨lend_side (x := x) (lend_ro0 rfl rfl) (lend_ro0 rfl rfl) (lend_ro0 rfl rfl) (lend_ro0 rfl rfl), trivial⟩ trivial)); refine xZ ?_)
    (apply wP; exact (call_op rfl (entersB_of Tryz.func61 (by kernel_rfl)) rfl ((rwithin_can e 0 400).at [] ⟨lend_plain rfl, lend_plain rfl, lend_plain rfl, trivial⟩ trivial)); refine xZ ?_)
    refine wC (fun h1 => ?_) (fun h1 => ?_)
    · (refine xG ?_)
      exact wD (Ends.plain (.inr rfl) rfl (by rw [endsX, hb, h1]; rfl))
    · (refine xG ?_)
      exact wD (Ends.plain (.inr rfl) rfl (by rw [endsX, hb, h1]; rfl))
def dueX (x : SideM) (h : Int) : Int × Bool :=
  if x.ceased = true then (0, false)
  else if (!(epochX x (wr (h - x.par.win))).2 || (decide (400 < (epochX x (wr (h - x.par.win))).1) || (endsX x (epochX x (wr (h - x.par.win))).1 != wr (h - x.par.win)))) = true then (0, false)
  else ((epochX x (wr (h - x.par.win))).1, true)
set_option maxHeartbeats 4000000 in
theorem due_can (x : SideM) (h : Int) : Reads Tryz.prog 27 [.box x.ac, .plain (.one (.raw (.int .i64 h)))] [] (.tup [.one (.raw (.int .i64 (dueX x h).1)), .one (.raw (.bool (dueX x h).2))]) := by
  refine Reads.of Tryz.T_ok Tryz.func27 rfl _ _ _ rfl rfl (fun C hC => ?_)
  (replace hC : C.n0 = 5 := hC; change Tri _ _ _ ⟨_, _, 5⟩ _)
  have he := epoch_can x (wr (h - x.par.win))
  refine Tri.of Tryz.mixed Tryz.T_ok ?_
  (refine xB ?_)
  refine wC (fun h1 => ?_) (fun h1 => ?_)
  · (refine xG ?_)
    exact wD (Ends.plain (.inr rfl) rfl (by rw [dueX, if_pos h1]))
  (refine xG ?_)
  have hd : dueX x h = if (!(epochX x (wr (h - x.par.win))).2 || (decide (400 < (epochX x (wr (h - x.par.win))).1) || (endsX x (epochX x (wr (h - x.par.win))).1 != wr (h - x.par.win)))) = true then (0, false) else ((epochX x (wr (h - x.par.win))).1, true) := by rw [dueX, if_neg (by rw [h1]; simp)]
  obtain ⟨⟨e, ok⟩, hp⟩ : ∃ p, epochX x (wr (h - x.par.win)) = p := ⟨_, rfl⟩
  rw [hp] at he hd
  have hn := ends_can x e
  dsimp only at he hd
  (apply wP; exact (call_op rfl (entersB_of Tryz.func59 (by kernel_rfl)) rfl (he.at [0, 1, 2, 3] ⟨lend_side (x := x) (lend_ro0 rfl rfl) (lend_ro0 rfl rfl) (lend_ro0 rfl rfl) (lend_ro0 rfl rfl), lend_plain rfl, trivial⟩ trivial)); refine xZ ?_)
  refine wC (fun h2 => ?_) (fun h2 => ?_)
  · (refine xG ?_)
    exact wD (Ends.plain (.inr rfl) rfl (by rw [hd, if_pos (by rw [h2]; rfl)]))
  (refine xG ?_)
  refine wC (fun h3 => ?_) (fun h3 => ?_)
  · (refine xG ?_)
    exact wD (Ends.plain (.inr rfl) rfl (by rw [hd, if_pos (by rw [h2, h3]; rfl)]))
  (refine xG ?_)
  (apply wP; exact (call_op rfl (entersB_of Tryz.func28 (by kernel_rfl)) rfl (hn.at [0, 1, 2, 3] ⟨lend_side (x := x) (lend_ro0 rfl rfl) (lend_ro0 rfl rfl) (lend_ro0 rfl rfl) (lend_ro0 rfl rfl), lend_plain rfl, trivial⟩ trivial)); refine xZ ?_)
  refine wC (fun h4 => ?_) (fun h4 => ?_)
  · (refine xG ?_)
    exact wD (Ends.plain (.inr rfl) rfl (by rw [hd, if_pos (by rw [h2, h3]; exact h4)]))
  · (refine xG ?_)
    exact wD (Ends.plain (.inr rfl) rfl (by rw [hd, if_neg (by rw [h2, h3, Bool.false_or, Bool.false_or]; intro h5; rw [show (endsX x e != wr (h - x.par.win)) = false from h4] at h5; cases h5)]))
end Go.Proofs.YtnpkdoggfnlapaaGreatDoor
namespace Go.Proofs.YtnpkdoggfnlapaaGreatDoor
set_option maxRecDepth 100000
open Go.Sx
end Go.Proofs.YtnpkdoggfnlapaaGreatDoor
namespace Go.Proofs.YtnpkdoggfnlapaaGreatDoor
set_option maxRecDepth 100000
open Go.Sx
theorem rowB_numL (n : Int) : ∀ {w k : Nat}, k < w → bytesF (numB n) k = rowB (numL n w) k
  | w + 1, k, hk => by
    rw [numL]
    by_cases h : k < w
    · rw [rowB_numL n h]
      simp [rowB, bytesF, List.getD_eq_getElem?_getD, List.getElem?_append_left (show k < (numL n w).length by rw [numL_length]; exact h)]
    · obtain rfl : k = w := by omega
      simp [rowB, bytesF, List.getD_eq_getElem?_getD, numL_length]
def digF (n : Int) (i : Nat) : Nat → UInt8 := fun k => if k < i then numB n k else 0
def digSt (n : Int) (w i : Nat) : St :=
  ⟨[some (XV.int .i64 n), none, none, none, none, some (XV.sv (.slc 2 1 0 w)), none, none, none, some (XV.sv (.slc 2 1 0 w)), some (XV.int .i64 w), some (XV.int .i64 i)] ++ List.replicate 12 none,
   [(2, .vec 5 1 w (bytesF (digF n i)))], 3⟩
theorem digits_can (n : Int) (w : Nat) (hw : w ≤ 7) : Makes Tryz.prog 212 [.plain (.one (.raw (.int .i64 n))), .plain (.one (.raw (.int .i64 w)))] [] (XV.sv (.slc 0 1 0 w)) (.vec 5 1 w (rowB (numL n w))) := by
  refine Makes.of Tryz.T_ok Tryz.func212 rfl _ _ _ _ rfl rfl rfl rfl 2 (fun C hC => ?_)
  (replace hC : C.n0 = 2 := hC; change Tri _ _ _ ⟨_, _, 2⟩ _)
  (refine Tri.cut 2 Tryz.mixed Tryz.T_ok ?_; refine xZ ?_)
  refine wN ⟨rfl, by omega, by omega⟩ ?_
  (refine xG ?_)
  refine wD <| cutG <| Tri.seq ?_
  (refine Tri.cut 1 Tryz.mixed Tryz.T_ok ?_; refine xZ ?_)
  refine wD <| cutG <| Tri.block ?_
  refine Tri.loop (α := { i : Nat // i ≤ w }) (fun i => digSt n w i.1) (fun i => w - i.1) ⟨0, Nat.zero_le _⟩ ?_ ?_
  · simp only [Int.toNat_natCast]
    ((try dsimp only); refine Ent.renC [0, 1, 4] hC ?_ ?_ <;> repeat' (first | exact trivial | exact rfl | exact ⟨_, rfl, rfl, rfl, Nat.le_refl _, fun _ _ => rfl⟩ | exact ⟨_, rfl, rfl, rfl, fun _ _ => rfl⟩ | exact ⟨_, rfl, rfl, rfl⟩ | exact ⟨_, rfl, rfl⟩ | refine ⟨_, rfl, rfl, rfl, by omega, fun k hk => ?_⟩ | refine ⟨?_, ?_⟩ | fail))
  rintro ⟨i, hi⟩
  dsimp only
  (refine Tri.cut 2 Tryz.mixed Tryz.T_ok ?_; refine xZ ?_)
  refine wC (fun h1 => ?_) (fun h1 => ?_)
  · (refine xG ?_)
    have h1' : i < w := xW
    have hw1 : IntKind.i64.wrap ((i : Int) + 1) = ((i + 1 : Nat) : Int) := xW
    have hw8 : IntKind.i64.wrap (8 * (i : Int)) = ((8 * i : Nat) : Int) := xW
    refine wD <| cutG <| Tri.seq <| Tri.block <| Tri.of Tryz.mixed Tryz.T_ok ?_
    (refine xB ?_)
    simp only [hw8]
    (repeat (refine wN ?_ ?_; exact xW; refine xG ?_))
    refine wD <| blockN <| cutG <| Tri.of Tryz.mixed Tryz.T_ok ?_
    (refine xB ?_)
    refine wD <| loopN ⟨⟨i + 1, h1'⟩, by dsimp only; omega, ?_⟩
    rw [hw1]
    ((try dsimp only); refine Ent.renC [0, 1, 2] hC ?_ ?_ <;> repeat' (first | exact trivial | exact rfl | exact ⟨_, rfl, rfl, rfl, Nat.le_refl _, fun _ _ => rfl⟩ | exact ⟨_, rfl, rfl, rfl, fun _ _ => rfl⟩ | exact ⟨_, rfl, rfl, rfl⟩ | exact ⟨_, rfl, rfl⟩ | refine ⟨_, rfl, rfl, rfl, by omega, fun k hk => ?_⟩ | refine ⟨?_, ?_⟩ | fail))
    simp only [Int.toNat_natCast, Nat.zero_add]
    rw [← u8_byteI, updB]
    simp only [bytesF, digF]
    by_cases hk2 : k = i
    · subst hk2
      rw [if_pos rfl, if_pos (Nat.lt_succ_self k)]
      rfl
    · rw [if_neg hk2]
      by_cases hk3 : k < i
      · rw [if_pos hk3, if_pos (by omega)]
      · rw [if_neg hk3, if_neg (by omega)]
  · (refine xG ?_)
    have h1' : i = w := xW
    subst h1'
    have hf : ∀ k, k < i → bytesF (digF n i) k = rowB (numL n i) k := fun k hk => by
      rw [← rowB_numL n hk]; simp [bytesF, digF, hk]
    refine wD <| cutE <| loopX <| blockX <| cutG <| Tri.ent (Ent.chg0 (c := 2) (g := rowB (numL n i)) rfl hf) <| Tri.of Tryz.mixed Tryz.T_ok ?_
    (refine xB ?_)
    exact wD (Ends.made (.inr rfl) (Ent.refl _) rfl (Nat.le_refl _) rfl)
structure WrM where
  b : List UInt8
  e : Int
def wrM (ty : TypeId) (W : WrM) : Mem := [(0, .cells ty [.slc 1 1 0 W.b.length, .raw (.int .i64 W.e)]), (1, .vec 5 1 W.b.length (rowB W.b))]
def wrP (ty : TypeId) (W : WrM) : AbsP := packP (wrM ty W) True
theorem WrM.opens {P : Program} {C : Ctx} {cd : Code} {slots : List (Option XV)} {mem : Mem} {nx : Nat} {Q : Exit → St → Prop} (ty : TypeId) (W : WrM) (c : Nat) (hc : mem.get c = some (.abs (wrP ty W)))
    (h : Tri P C cd ⟨slots, (c, .cells ty [.slc (nx + 1) 1 0 W.b.length, .raw (.int .i64 W.e)]) :: (nx + 1, .vec 5 1 W.b.length (rowB W.b)) :: mem.del c, nx + 2⟩ Q) : Tri P C cd ⟨slots, mem, nx⟩ Q :=
  Tri.opens (M := wrM ty W) (m := 2) (inv := True) (c := c) hc rfl fun _ => h
theorem WrM.shuts {C : Ctx} {slots : List (Option XV)} {mem : Mem} {nx : Nat} (ty : TypeId) (W : WrM) (c : Nat) {i1 m n : Nat} {er : Int} {f : Nat → List Value} (k0 : mem.get c = some (.cells ty [.slc i1 1 0 m, .raw (.int .i64 er)])) (k1 : mem.get i1 = some (.vec 5 1 n f))
    (hids : Nat.beq c i1 = false) (hm : m = W.b.length) (he : er = W.e) (hle : W.b.length ≤ n) (hf : ∀ i, i < W.b.length → f i = rowB W.b i) : Ent C ⟨slots, mem, nx⟩ ⟨slots, (c, .abs (wrP ty W)) :: mem.dels [c, i1], nx⟩ := by
  subst hm he
  exact Ent.shut2 (S := ⟨slots, mem, nx⟩) (M := wrM ty W) (inv := True) hids trivial rfl rfl rfl k0 k1 rfl ⟨rfl, rfl⟩ ⟨rfl, rfl, hle, hf⟩
theorem WrM.ends {C : Ctx} {T : TyTab} {rs : List ResultVar} {X X' : XV} {e : Exit} {n0 : Nat} {slots : List (Option XV)} {mem : Mem} {nx : Nat} {W0 : WrM} (ty : TypeId) (W : WrM) {i1 m n : Nat} {er : Int} {f : Nat → List Value} (he : e = .normal ∨ e = .ret)
    (k0 : mem.get 0 = some (.cells ty [.slc i1 1 0 m, .raw (.int .i64 er)])) (k1 : mem.get i1 = some (.vec 5 1 n f)) (hids : Nat.beq 0 i1 = false) (hr : resX T ⟨slots, (0, .abs (wrP ty W)) :: mem.dels [0, i1], nx⟩ rs = some X') (hX : X' = X) (hW : W = W0)
    (hm : m = W.b.length) (her : er = W.e) (hle : W.b.length ≤ n) (hf : ∀ i, i < W.b.length → f i = rowB W.b i) : Sx.Ends C T rs 1 n0 ⟨X, [(0, .abs (wrP ty W0))], none⟩ e ⟨slots, mem, nx⟩ := by
  subst hX hW
  exact Ends.shutN he (WrM.shuts ty W 0 k0 k1 hids hm her hle hf) rfl hr rfl
def WrM.put (W : WrM) (b : List UInt8) : WrM := if W.e = 0 then (if (131072 : Int) - (W.b.length : Int) < (b.length : Int) then ⟨W.b, 3⟩ else ⟨W.b ++ b, W.e⟩) else W
theorem put_can (ty : TypeId) (W : WrM) (b : List UInt8) (hW : W.b.length ≤ 1000000) (hb : b.length ≤ 1000000) : Acts Tryz.prog 211 (.abs (wrP ty W)) (.abs (wrP ty (W.put b))) [.row 1 b.length (rowB b)] [] (.tup []) := by
  refine Acts.of Tryz.T_ok Tryz.func211 rfl _ _ _ _ _ rfl rfl rfl (fun C hC => ?_)
  (replace hC : C.n0 = 2 := hC; change Tri _ _ _ ⟨_, _, 2⟩ _)
  refine WrM.opens ty W 0 rfl (Tri.of Tryz.mixed Tryz.T_ok ?_)
  (refine xB ?_)
  refine wC (fun h1 => ?_) (fun h1 => ?_)
  · have h1' : ¬ W.e = 0 := by simpa using h1
    (refine xG ?_)
    refine wD (WrM.ends ty W (.inl rfl) rfl rfl rfl rfl rfl ?_ rfl rfl (Nat.le_refl _) (fun _ _ => rfl))
    rw [WrM.put, if_neg h1']
  · have h1' : W.e = 0 := by simpa using h1
    (refine xG ?_)
    have e1 : IntKind.i64.wrap (131072 - (W.b.length : Int)) = 131072 - (W.b.length : Int) := xW
    simp only [e1]
    refine wC (fun h2 => ?_) (fun h2 => ?_)
    · have h2' : (131072 : Int) - (W.b.length : Int) < (b.length : Int) := of_decide_eq_true h2
      (refine xG ?_)
      refine wD (WrM.ends ty ⟨W.b, 3⟩ (.inl rfl) rfl rfl rfl rfl rfl ?_ rfl rfl (Nat.le_refl _) (fun _ _ => rfl))
      rw [WrM.put, if_pos h1', if_pos h2']
    · have h2' : ¬ (131072 : Int) - (W.b.length : Int) < (b.length : Int) := of_decide_eq_false h2
      (refine xG ?_)
      (refine wP _ _ (append_op Tryz.T_ok rfl rfl rfl rfl rfl [3, 1] (old_vec rfl rfl (Nat.le_refl _) rfl) (new_ro (lo := 0) rfl rfl (Nat.le_of_eq (Nat.zero_add _)) rfl) rfl (fun _ _ => rfl) (by simp only [maxLen]; omega) (by dsimp only; omega)) ?_; refine xZ ?_)
      refine wD (WrM.ends ty ⟨W.b ++ b, W.e⟩ (.inl rfl) rfl rfl rfl rfl rfl ?_ (List.length_append).symm rfl (Nat.le_of_eq List.length_append) (fun i hi => ?_))
      · rw [WrM.put, if_pos h1', if_neg h2']
      · exact rowB_join rfl (fun _ _ => rfl) (fun _ _ => by rw [Nat.zero_add]) (by rw [← List.length_append]; exact hi)
def FitsN (n : Int) (w : Nat) : Prop := 1 ≤ w ∧ w ≤ 7 ∧ 0 ≤ n ∧ n < 2 ^ (8 * w)
theorem fits_shr {n : Int} {w : Nat} (h : FitsN n w) : shrI .i64 n ((8 * w : Nat) : Int) = 0 := by
  obtain ⟨h1, h2, h3, h4⟩ := h
  have hb : IntKind.i64.bits = 64 := rfl
  have e : min (((8 * w : Nat) : Int).toNat) IntKind.i64.bits = 8 * w := by rw [hb]; omega
  rw [shrI, e, Int.fdiv_eq_ediv_of_nonneg _ (Int.le_of_lt (Int.pow_pos (by decide)))]
  exact Int.ediv_eq_zero_of_lt h3 h4
theorem wnum_can (ty : TypeId) (W : WrM) (n : Int) (w : Nat) (hn : FitsN n w) (hW : W.b.length ≤ 1000000) : Acts Tryz.prog 183 (.abs (wrP ty W)) (.abs (wrP ty (W.put (numL n w)))) [.plain (.one (.raw (.int .i64 n))), .plain (.one (.raw (.int .i64 w)))] [] (.tup []) := by
  obtain ⟨f1, f2, f3, f4⟩ := id hn
  refine Acts.of Tryz.T_ok Tryz.func183 rfl _ _ _ _ _ rfl rfl rfl (fun C hC => ?_)
  (replace hC : C.n0 = 3 := hC; change Tri _ _ _ ⟨_, _, 3⟩ _)
  refine WrM.opens ty W 0 rfl (Tri.block ?_)
  (refine Tri.cut 1 Tryz.mixed Tryz.T_ok ?_; refine xZ ?_)
  refine wD <| cutG <| Tri.cond (b := (W.e != 0)) rfl (fun h1 => ?_) (fun h1 => ?_)
  · have h1' : ¬ W.e = 0 := by simpa using h1
    refine Tri.skip (blockN (WrM.ends ty W (.inl rfl) rfl rfl rfl rfl rfl ?_ rfl rfl (Nat.le_refl _) (fun _ _ => rfl)))
    rw [WrM.put, if_neg h1']
  · have e8 : IntKind.i64.wrap (8 * (w : Int)) = ((8 * w : Nat) : Int) := xW
    refine Tri.ent (WrM.shuts ty W 0 rfl rfl rfl rfl rfl (Nat.le_refl _) (fun _ _ => rfl)) (Tri.of Tryz.mixed Tryz.T_ok ?_)
    (refine xB ?_)
    (refine wFd ?_ ?_; (first | refine decide_eq_false ?_ | rw [beq_eq_false_iff_ne] | rw [bne_eq_false_iff_eq]); exact xW; refine xG ?_)
    (refine wFd ?_ ?_; (first | refine decide_eq_false ?_ | rw [beq_eq_false_iff_ne] | rw [bne_eq_false_iff_eq]); exact xW; refine xG ?_)
    (refine wFd ?_ ?_; (first | refine decide_eq_false ?_ | rw [beq_eq_false_iff_ne] | rw [bne_eq_false_iff_eq]); exact xW; refine xG ?_)
    simp only [e8]
    (repeat (refine wN ?_ ?_; exact xW; refine xG ?_))
    simp only [fits_shr hn]
    (refine wFd rfl ?_; refine xG ?_)
    (apply wP; exact (call_op rfl (entersB_of Tryz.func212 (by kernel_rfl)) rfl ((digits_can n w f2).at [] ⟨lend_plain rfl, lend_plain rfl, trivial⟩ trivial)); refine xZ ?_)
    (apply wP; exact (call_op rfl (entersB_of Tryz.func211 (by kernel_rfl)) rfl ((put_can ty W (numL n w) hW (by rw [numL_length]; omega)).at [36] rfl rfl rfl ⟨lend_vecN (numL_length n w).symm rfl rfl (by rw [numL_length]; omega) (fun i _ => by rw [Nat.zero_add]), trivial⟩ trivial)); refine xZ ?_)
    exact wD (blockN (Ends.shutN (.inl rfl) (Ent.refl _) rfl rfl rfl))
def WrM.hash (W : WrM) (h : H8) : WrM := W.put h.l
theorem whash_can (ty : TypeId) (W : WrM) (h : H8) (hW : W.b.length ≤ 1000000) : Acts Tryz.prog 213 (.abs (wrP ty W)) (.abs (wrP ty (W.put h.l))) [.plain h.x] [] (.tup []) := by
  refine Acts.of Tryz.T_ok Tryz.func213 rfl _ _ _ _ _ rfl rfl rfl (fun C hC => ?_)
  (replace hC : C.n0 = 2 := hC; change Tri _ _ _ ⟨_, _, 2⟩ _)
  refine Tri.of Tryz.mixed Tryz.T_ok ?_
  (refine xB ?_)
  (apply wP; exact (call_op rfl (entersB_of Tryz.func211 (by kernel_rfl)) rfl ((put_can ty W h.l hW (by simp [H8.l_len])).at [2] rfl rfl rfl ⟨lend_sla rfl rfl (fun _ _ => rfl) rfl, trivial⟩ trivial)); refine xZ ?_)
  exact wD (Ends.shutN (.inl rfl) (Ent.refl _) rfl rfl rfl)
end Go.Proofs.YtnpkdoggfnlapaaGreatDoor
namespace Go.Proofs.YtnpkdoggfnlapaaGreatDoor
set_option maxRecDepth 100000
open Go.Sx
def WrM.puts (W : WrM) (cs : List (List UInt8)) : WrM := cs.foldl WrM.put W
theorem puts_snoc (W : WrM) (cs : List (List UInt8)) (c : List UInt8) : W.puts (cs ++ [c]) = (W.puts cs).put c := by simp [WrM.puts]
theorem puts_append (W : WrM) (cs ds : List (List UInt8)) : W.puts (cs ++ ds) = (W.puts cs).puts ds := by simp [WrM.puts]
theorem put_len {W : WrM} {b : List UInt8} (h : W.b.length ≤ 131072) : (W.put b).b.length ≤ 131072 := by
  unfold WrM.put
  split
  · split
    · exact h
    · rename_i h2
      simp only [List.length_append]
      omega
  · exact h
theorem puts_len : ∀ {cs : List (List UInt8)} {W : WrM}, W.b.length ≤ 131072 → (W.puts cs).b.length ≤ 131072
  | [], _, h => h
  | c :: cs, W, h => puts_len (cs := cs) (put_len (b := c) h)
theorem puts_ok : ∀ {cs : List (List UInt8)} {W : WrM}, W.e = 0 → W.b.length + cs.flatten.length ≤ 131072 → W.puts cs = ⟨W.b ++ cs.flatten, 0⟩
  | [], W, h, _ => by
    cases W
    simp only at h
    simp [WrM.puts, h]
  | c :: cs, W, h, hl => by
    simp only [List.flatten_cons, List.length_append] at hl
    have e : W.put c = ⟨W.b ++ c, 0⟩ := by
      rw [WrM.put, if_pos h, if_neg (by omega), h]
    show (W.put c).puts cs = _
    rw [e, puts_ok rfl (by simp only [List.length_append]; omega)]
    simp
def hashesL (p : Nat → H8) (n : Nat) : List (List UInt8) := (List.range n).map fun i => (p i).l
theorem hashesL_succ (p : Nat → H8) (n : Nat) : hashesL p (n + 1) = hashesL p n ++ [(p n).l] := by simp [hashesL, List.range_succ]
theorem row_can (ty : TypeId) (W : WrM) (p : Nat → H8) (n : Nat) (hn : n ≤ 1000000000) (hW : W.b.length ≤ 131072) : Acts Tryz.prog 215 (.abs (wrP ty W)) (.abs (wrP ty (W.puts (hashesL p n)))) [.row 8 n (hashF p)] [] (.tup []) := by
  refine Acts.of Tryz.T_ok Tryz.func215 rfl _ _ _ _ _ rfl rfl rfl (fun C hC => ?_)
  (replace hC : C.n0 = 2 := hC; change Tri _ _ _ ⟨_, _, 2⟩ _)
  (refine Tri.cut 1 Tryz.mixed Tryz.T_ok ?_; refine xZ ?_)
  refine wD <| cutG <| Tri.block ?_
  refine Tri.loop (α := { i : Nat // i ≤ n }) (fun i => ⟨[some (XV.sv (.ptr 0 0 0 0)), none, none, none, none, none, some (XV.sv (.slc 1 8 0 n)), some (XV.int .i64 n), some (XV.int .i64 i.1)] ++ List.replicate 9 none, [(0, .abs (wrP ty (W.puts (hashesL p i.1)))), (1, .ro 8 n (hashF p))], 2⟩) (fun i => n - i.1) ⟨0, Nat.zero_le _⟩ ?_ ?_
  · ((try dsimp only); refine Ent.renC [0, 1] hC ?_ ?_ <;> repeat' (first | exact trivial | exact rfl | exact ⟨_, rfl, rfl, rfl, Nat.le_refl _, fun _ _ => rfl⟩ | exact ⟨_, rfl, rfl, rfl, fun _ _ => rfl⟩ | exact ⟨_, rfl, rfl, rfl⟩ | exact ⟨_, rfl, rfl⟩ | refine ⟨_, rfl, rfl, rfl, by omega, fun k hk => ?_⟩ | refine ⟨?_, ?_⟩ | fail))
  rintro ⟨i, hi⟩
  dsimp only
  (refine Tri.cut 2 Tryz.mixed Tryz.T_ok ?_; refine xZ ?_)
  refine wC (fun h1 => ?_) (fun h1 => ?_)
  · (refine xG ?_)
    have h1' : i < n := xW
    have hw : IntKind.i64.wrap ((i : Int) + 1) = ((i + 1 : Nat) : Int) := xW
    have hp := puts_len (cs := hashesL p i) hW
    refine wD <| cutG <| Tri.seq <| Tri.block <| Tri.of Tryz.mixed Tryz.T_ok ?_
    (refine xB ?_)
    (repeat (refine wN ?_ ?_; exact xW; refine xG ?_))
    simp only [Nat.zero_add, Int.toNat_natCast]
    (apply wP; exact (call_op rfl (entersB_of Tryz.func213 (by kernel_rfl)) rfl ((whash_can ty (W.puts (hashesL p i)) (p i) (by omega)).at [] rfl rfl rfl ⟨lend_plain rfl, trivial⟩ trivial)); refine xZ ?_)
    refine wD <| blockN <| cutG <| Tri.of Tryz.mixed Tryz.T_ok ?_
    (refine xB ?_)
    refine wD <| loopN ⟨⟨i + 1, h1'⟩, by dsimp only; omega, ?_⟩
    rw [hw]
    dsimp only
    rw [hashesL_succ, puts_snoc]
    ((try dsimp only); refine Ent.renC [0, 1] hC ?_ ?_ <;> repeat' (first | exact trivial | exact rfl | exact ⟨_, rfl, rfl, rfl, Nat.le_refl _, fun _ _ => rfl⟩ | exact ⟨_, rfl, rfl, rfl, fun _ _ => rfl⟩ | exact ⟨_, rfl, rfl, rfl⟩ | exact ⟨_, rfl, rfl⟩ | refine ⟨_, rfl, rfl, rfl, by omega, fun k hk => ?_⟩ | refine ⟨?_, ?_⟩ | fail))
  · (refine xG ?_)
    have h1' : i = n := xW
    subst h1'
    exact wD <| cutE <| loopX <| blockX (Ends.shutN (.inl rfl) (Ent.refl _) rfl rfl rfl)
def SigM.parts (s : SigM) : List (List UInt8) := numL s.idx 1 :: (hashesL s.opn 16 ++ (hashesL s.shut 16 ++ hashesL s.path 3))
theorem sig_can (ty : TypeId) (W : WrM) (s : SigM) (hs : FitsN s.idx 1) (hW : W.b.length ≤ 131072) : Acts Tryz.prog 214 (.abs (wrP ty W)) (.abs (wrP ty (W.puts s.parts))) [.plain s.x] [] (.tup []) := by
  have h1 := put_len (b := numL s.idx 1) hW
  have h2 := puts_len (cs := hashesL s.opn 16) h1
  have h3 := puts_len (cs := hashesL s.shut 16) h2
  refine Acts.of Tryz.T_ok Tryz.func214 rfl _ _ _ _ _ rfl rfl rfl (fun C hC => ?_)
  (replace hC : C.n0 = 2 := hC; change Tri _ _ _ ⟨_, _, 2⟩ _)
  refine Tri.of Tryz.mixed Tryz.T_ok ?_
  (refine xB ?_)
  (apply wP; exact (call_op rfl (entersB_of Tryz.func183 (by kernel_rfl)) rfl ((wnum_can ty W s.idx 1 hs (by omega)).at [] rfl rfl rfl ⟨lend_plain rfl, lend_plain rfl, trivial⟩ trivial)); refine xZ ?_)
  (apply wP; exact (call_op rfl (entersB_of Tryz.func215 (by kernel_rfl)) rfl ((row_can ty (W.put (numL s.idx 1)) s.opn 16 (by decide) h1).at [2] rfl rfl rfl ⟨lend_sla rfl rfl (fun _ _ => rfl) rfl, trivial⟩ trivial)); refine xZ ?_)
  (apply wP; exact (call_op rfl (entersB_of Tryz.func215 (by kernel_rfl)) rfl ((row_can ty ((W.put (numL s.idx 1)).puts (hashesL s.opn 16)) s.shut 16 (by decide) h2).at [2] rfl rfl rfl ⟨lend_sla rfl rfl (fun _ _ => rfl) rfl, trivial⟩ trivial)); refine xZ ?_)
  (apply wP; exact (call_op rfl (entersB_of Tryz.func215 (by kernel_rfl)) rfl ((row_can ty (((W.put (numL s.idx 1)).puts (hashesL s.opn 16)).puts (hashesL s.shut 16)) s.path 3 (by decide) h3).at [2] rfl rfl rfl ⟨lend_sla rfl rfl (fun _ _ => rfl) rfl, trivial⟩ trivial)); refine xZ ?_)
  have e : W.puts s.parts = (((W.put (numL s.idx 1)).puts (hashesL s.opn 16)).puts (hashesL s.shut 16)).puts (hashesL s.path 3) := by
    show (W.put (numL s.idx 1)).puts _ = _
    rw [puts_append, puts_append]
  rw [e]
  exact wD (Ends.shutN (.inl rfl) (Ent.refl _) rfl rfl rfl)
end Go.Proofs.YtnpkdoggfnlapaaGreatDoor
namespace Go.Proofs.YtnpkdoggfnlapaaGreatDoor
set_option maxRecDepth 100000
open Go.Sx
theorem flatMap_take_succ {E F : Type} [Inhabited E] (f : E → List F) {l : List E} {i : Nat} (hi : i < l.length) : (l.take (i + 1)).flatMap f = (l.take i).flatMap f ++ f (l.getD i default) := by
  rw [List.take_add_one, List.flatMap_append]
  have : l[i]?.toList = [l.getD i default] := by rw [List.getElem?_eq_getElem hi, List.getD_eq_getElem?_getD, List.getElem?_eq_getElem hi]; rfl
  rw [this]; simp
theorem all_at {E : Type} [Inhabited E] {p : E → Bool} {l : List E} (h : l.all p = true) {i : Nat} (hi : i < l.length) : p (l.getD i default) = true := by
  rw [List.getD_eq_getElem?_getD, List.getElem?_eq_getElem hi]
  exact List.all_eq_true.1 h _ (List.getElem_mem hi)
theorem within_iff {n a b : Int} : withinB n a b = true ↔ a ≤ n ∧ n ≤ b := by simp [withinB]
theorem fits_within {n b : Int} {w : Nat} (h : withinB n 0 b = true) (hw : 1 ≤ w ∧ w ≤ 7) (hb : b < 2 ^ (8 * w)) : FitsN n w := by
  rw [within_iff] at h
  exact ⟨hw.1, hw.2, h.1, Int.lt_of_le_of_lt h.2 hb⟩
theorem fits_money {n : Int} (h : moneyB n = true) : FitsN n 7 := by
  rw [moneyB, within_iff] at h
  exact ⟨by decide, by decide, by omega, by omega⟩
theorem fits_len {n : Nat} (h : n ≤ 255) : FitsN (n : Int) 1 := ⟨by decide, by decide, by omega, by omega⟩
def OutM.parts (o : OutM) : List (List UInt8) := [o.to.l, numL o.amt.toInt 7]
def outsParts (l : List OutM) : List (List UInt8) := numL (l.length : Int) 1 :: l.flatMap OutM.parts
theorem wouts_can (ty : TypeId) (W : WrM) (l : List OutM) (hl : outsOK l = true) (hW : W.b.length ≤ 131072) : Acts Tryz.prog 184 (.abs (wrP ty W)) (.abs (wrP ty (W.puts (outsParts l)))) [.row 9 l.length (outsF l)] [] (.tup []) := by
  rw [outsOK, Bool.and_eq_true, decide_eq_true_eq] at hl
  obtain ⟨ha, hn⟩ := hl
  refine Acts.of Tryz.T_ok Tryz.func184 rfl _ _ _ _ _ rfl rfl rfl (fun C hC => ?_)
  (replace hC : C.n0 = 2 := hC; change Tri _ _ _ ⟨_, _, 2⟩ _)
  (refine Tri.cut 2 Tryz.mixed Tryz.T_ok ?_; refine xZ ?_)
  (apply wP; exact (call_op rfl (entersB_of Tryz.func183 (by kernel_rfl)) rfl ((wnum_can ty W (l.length : Int) 1 (fits_len (by omega)) (by omega)).at [] rfl rfl rfl ⟨lend_plain rfl, lend_plain rfl, trivial⟩ trivial)); refine xZ ?_)
  refine wD <| cutG <| Tri.block ?_
  refine Tri.loop (α := { i : Nat // i ≤ l.length }) (fun i => ⟨[some (XV.sv (.ptr 0 0 0 0)), none, none, none, none, none, none, none, none, none, none, none, some (XV.sv (.slc 1 9 0 l.length)), some (XV.int .i64 l.length), some (XV.int .i64 i.1)] ++ List.replicate 16 none, [(0, .abs (wrP ty (W.puts (numL (l.length : Int) 1 :: (l.take i.1).flatMap OutM.parts)))), (1, .ro 9 l.length (outsF l))], 2⟩) (fun i => l.length - i.1) ⟨0, Nat.zero_le _⟩ ?_ ?_
  · ((try dsimp only); refine Ent.renC [0, 1] hC ?_ ?_ <;> repeat' (first | exact trivial | exact rfl | exact ⟨_, rfl, rfl, rfl, Nat.le_refl _, fun _ _ => rfl⟩ | exact ⟨_, rfl, rfl, rfl, fun _ _ => rfl⟩ | exact ⟨_, rfl, rfl, rfl⟩ | exact ⟨_, rfl, rfl⟩ | refine ⟨_, rfl, rfl, rfl, by omega, fun k hk => ?_⟩ | refine ⟨?_, ?_⟩ | fail))
  rintro ⟨i, hi⟩
  dsimp only
  (refine Tri.cut 2 Tryz.mixed Tryz.T_ok ?_; refine xZ ?_)
  refine wC (fun h1 => ?_) (fun h1 => ?_)
  · (refine xG ?_)
    have h1' : i < l.length := xW
    have hw : IntKind.i64.wrap ((i : Int) + 1) = ((i + 1 : Nat) : Int) := xW
    have ho := all_at ha h1'
    rw [outOK, Bool.and_eq_true] at ho
    have hp := puts_len (cs := numL (l.length : Int) 1 :: (l.take i).flatMap OutM.parts) hW
    have hp2 := put_len (b := (l.getD i default).to.l) hp
    refine wD <| cutG <| Tri.seq <| Tri.block <| Tri.of Tryz.mixed Tryz.T_ok ?_
    (refine xB ?_)
    (repeat (refine wN ?_ ?_; exact xW; refine xG ?_))
    simp only [Nat.zero_add, Int.toNat_natCast]
    (apply wP; exact (call_op rfl (entersB_of Tryz.func213 (by kernel_rfl)) rfl ((whash_can ty (W.puts (numL (l.length : Int) 1 :: (l.take i).flatMap OutM.parts)) (l.getD i default).to (by omega)).at [] rfl rfl rfl ⟨lend_plain rfl, trivial⟩ trivial)); refine xZ ?_)
    (apply wP; exact (call_op rfl (entersB_of Tryz.func183 (by kernel_rfl)) rfl ((wnum_can ty ((W.puts (numL (l.length : Int) 1 :: (l.take i).flatMap OutM.parts)).put (l.getD i default).to.l) (l.getD i default).amt.toInt 7 (fits_money ho.2) (by omega)).at [] rfl rfl rfl ⟨lend_plain rfl, lend_plain rfl, trivial⟩ trivial)); refine xZ ?_)
    refine wD <| blockN <| cutG <| Tri.of Tryz.mixed Tryz.T_ok ?_
    (refine xB ?_)
    refine wD <| loopN ⟨⟨i + 1, h1'⟩, by dsimp only; omega, ?_⟩
    rw [hw]
    dsimp only
    rw [flatMap_take_succ _ h1', ← List.cons_append, puts_append]
    ((try dsimp only); refine Ent.renC [0, 1] hC ?_ ?_ <;> repeat' (first | exact trivial | exact rfl | exact ⟨_, rfl, rfl, rfl, Nat.le_refl _, fun _ _ => rfl⟩ | exact ⟨_, rfl, rfl, rfl, fun _ _ => rfl⟩ | exact ⟨_, rfl, rfl, rfl⟩ | exact ⟨_, rfl, rfl⟩ | refine ⟨_, rfl, rfl, rfl, by omega, fun k hk => ?_⟩ | refine ⟨?_, ?_⟩ | fail))
  · (refine xG ?_)
    have h1' : i = l.length := xW
    subst h1'
    rw [List.take_length]
    exact wD <| cutE <| loopX <| blockX (Ends.shutN (.inl rfl) (Ent.refl _) rfl rfl rfl)
def FwdM.parts (f : FwdM) : List (List UInt8) := [numL f.side.toInt 1, numL f.acct.toInt 2, f.owner.l, numL f.amt.toInt 7]
def InM.parts (x : InM) : List (List UInt8) := x.pt.tx.l :: numL x.pt.no.toInt 1 :: x.key.l :: x.sig.parts
end Go.Proofs.YtnpkdoggfnlapaaGreatDoor
namespace Go.Proofs.YtnpkdoggfnlapaaGreatDoor
set_option maxRecDepth 100000
open Go.Sx
theorem wend_can (ty : TypeId) (b : List UInt8) (hb : b.length ≤ 1000000) : Does Tryz.prog 190 [(.abs (wrP ty ⟨b, 0⟩), .abs (wrP ty ⟨b, 0⟩))] [] [] (.tup [.one (.slc 0 1 0 b.length), .one (.raw (.int .i64 0))]) (some (.vec 5 1 b.length (rowB b))) := by
  refine Does.of Tryz.T_ok Tryz.func190 rfl _ _ _ _ _ rfl rfl rfl 18 (fun C hC => ?_)
  (replace hC : C.n0 = 1 := hC; change Tri _ _ _ ⟨_, _, 1⟩ _)
  refine WrM.opens ty ⟨b, 0⟩ 0 rfl (Tri.of Tryz.mixed Tryz.T_ok ?_)
  (refine xB ?_)
  (refine wFd rfl ?_; refine xG ?_)
  (apply wP; exact (call_op rfl (entersB_of Tryz.func208 (by kernel_rfl)) rfl ((clone_can b (Nat.le_trans hb (by decide))).at [2] ⟨lend_vec0 rfl rfl, trivial⟩ trivial)); refine xZ ?_)
  exact wD (Ends.does (.inr rfl) (WrM.shuts ty ⟨b, 0⟩ 0 rfl rfl rfl rfl rfl (Nat.le_refl _) (fun _ _ => rfl)) rfl rfl (Nat.le_of_ble_eq_true rfl) rfl)
abbrev twr : TypeId := 260
theorem flatten_flatMap_le {E : Type} {f : E → List (List UInt8)} {k : Nat} (h : ∀ x, (f x).flatten.length ≤ k) : ∀ l : List E, (l.flatMap f).flatten.length ≤ k * l.length
  | [] => by simp
  | x :: l => by
    have := flatten_flatMap_le h l
    have := h x
    simp only [List.flatMap_cons, List.flatten_append, List.length_append, List.length_cons, Nat.mul_add]
    omega
theorem hashesL_flat (p : Nat → H8) : ∀ n, (hashesL p n).flatten.length = 8 * n
  | 0 => rfl
  | n + 1 => by rw [hashesL_succ, List.flatten_append, List.length_append, hashesL_flat p n]; simp [H8.l_len]; omega
theorem sig_flat (s : SigM) : s.parts.flatten.length = 281 := by
  simp only [SigM.parts, List.flatten_cons, List.flatten_append, List.length_append, hashesL_flat, numL_length]
end Go.Proofs.YtnpkdoggfnlapaaGreatDoor
namespace Go.Proofs.YtnpkdoggfnlapaaGreatDoor
set_option maxRecDepth 100000
open Go.Sx
theorem part_here {M : Mem} {rd : List Nat} {q n i sz cp k : Nat} {ln : Nat → Nat} {g : Nat → Nat → List Value} {ad : Nat → Option Addr} {cell : List Value} {f : Nat → List Value} (hm : M.get q = some (.ext (PartsAt sz n ln g ad))) (hrd : nmem q rd = true) (hi : i < n) (hc : cell = [.slice (ad i) (ln i) cp]) (hk : ln i = k) (hf : g i = f) : PartIn M rd sz cell k f :=
  ⟨q, n, ln, g, ad, i, cp, hm, hrd, hi, hc, hk, hf⟩
theorem parts_cons {M : Mem} {rd : List Nat} {q1 q2 cp0 n : Nat} {ad0 : Option Addr} {ad : Nat → Option Addr} {cp : Nat → Nat} {e : List UInt8} {bss : List (List UInt8)} {F : Nat → List Value}
    (h1 : M.get q1 = some (.ext (PartsAt 1 1 (fun _ => e.length) (fun _ => rowB e) (fun _ => ad0)))) (r1 : nmem q1 rd = true) (h2 : M.get q2 = some (.ext (PartsAt 1 bss.length (fun i => (bss.getD i []).length) (fun i => rowB (bss.getD i [])) ad))) (r2 : nmem q2 rd = true)
    (hF : F = joinF (cutF [.slice ad0 e.length cp0] 1) 1 (fun i => [.slice (ad (0 + i)) ((bss.getD (0 + i) []).length) (cp (0 + i))])) (hn : n = bss.length) : ∀ i, i < n + 1 → PartIn M rd 1 (F i) (((e :: bss).getD i []).length) (rowB ((e :: bss).getD i [])) := by
  subst hF hn
  intro i hi
  cases i with
  | zero => exact part_here (i := 0) h1 r1 (by decide) rfl rfl rfl
  | succ i =>
    refine part_here (i := i) (cp := cp i) h2 r2 (by omega) ?_ rfl rfl
    simp only [joinF, nblt, show ¬ i + 1 < 1 by omega, decide_false, cond_false, Nat.add_sub_cancel, Nat.zero_add]
end Go.Proofs.YtnpkdoggfnlapaaGreatDoor
namespace Go.Proofs.YtnpkdoggfnlapaaGreatDoor
set_option maxRecDepth 100000
open Go.Sx
theorem row1 {x : UInt8} {v : Value} (h : v = u8 x) : ∀ i, i < [x].length → rowB [x] i = cutF [v] 1 (0 + i) := by
  subst h
  intro i hi
  match i, hi with
  | 0, _ => rfl
end Go.Proofs.YtnpkdoggfnlapaaGreatDoor
namespace Go.Proofs.YtnpkdoggfnlapaaGreatDoor
set_option maxRecDepth 100000
open Go.Sx
def amtsF (l : List Int) : Nat → List Value := fun i => [.int .i64 (l.getD i 0)]
def sumM : Int → List Int → Option Int
  | acc, [] => some acc
  | acc, x :: r => if bothB acc x (IntKind.i64.wrap (acc + x)) = true then sumM (IntKind.i64.wrap (acc + x)) r else none
def sumX (l : List Int) : XV := .tup [.one (.raw (.int .i64 ((sumM 0 l).getD 0))), .one (.raw (.bool (sumM 0 l).isSome))]
theorem bothV_true {a b n : Int} (h : bothB a b n = true) : bothV a b n = [.one (.raw (.int .i64 n)), .one (.raw (.bool true))] := by rw [bothV, h]; rfl
theorem bothV_false {a b n : Int} (h : bothB a b n = false) : bothV a b n = [.one (.raw (.int .i64 0)), .one (.raw (.bool false))] := by rw [bothV, h]; rfl
theorem add_true {a b : Int} (h : bothB a b (IntKind.i64.wrap (a + b)) = true) (M : Mem) (d : Nat) : CallSpec Tryz.prog 154 [.one (.raw (.int .i64 a)), .one (.raw (.int .i64 b))] M d { v := .tup [.one (.raw (.int .i64 (IntKind.i64.wrap (a + b)))), .one (.raw (.bool true))] } [] := bothV_true h ▸ add_spec a b M d
theorem add_false {a b : Int} (h : bothB a b (IntKind.i64.wrap (a + b)) = false) (M : Mem) (d : Nat) : CallSpec Tryz.prog 154 [.one (.raw (.int .i64 a)), .one (.raw (.int .i64 b))] M d { v := .tup [.one (.raw (.int .i64 0)), .one (.raw (.bool false))] } [] := bothV_false h ▸ add_spec a b M d
theorem drop_cons {l : List Int} {i : Nat} (hi : i < l.length) : l.drop i = l.getD i 0 :: l.drop (i + 1) := by
  rw [List.drop_eq_getElem_cons hi, List.getD_eq_getElem?_getD, List.getElem?_eq_getElem hi]; rfl
theorem msum_can (l : List Int) (hl : l.length ≤ 2000000000) : Reads Tryz.prog 167 [.row 1 l.length (amtsF l)] [] (sumX l) := by
  refine Reads.of Tryz.T_ok Tryz.func167 rfl _ _ _ rfl rfl (fun C hC => ?_)
  (replace hC : C.n0 = 1 := hC; change Tri _ _ _ ⟨_, _, 1⟩ _)
  (refine Tri.cut 2 Tryz.mixed Tryz.T_ok ?_; refine xZ ?_)
  refine wD <| cutG <| Tri.seq ?_
  (refine Tri.cut 1 Tryz.mixed Tryz.T_ok ?_; refine xZ ?_)
  refine wD <| cutG <| Tri.block ?_
  refine Tri.loop (α := { x : Nat × Int // x.1 ≤ l.length ∧ sumM 0 l = sumM x.2 (l.drop x.1) }) (fun x => ⟨[some (XV.sv (.slc 0 1 0 l.length)), none, none, none, some (XV.int .i64 x.1.2), none, none, none, some (XV.sv (.slc 0 1 0 l.length)), some (XV.int .i64 l.length), some (XV.int .i64 x.1.1)] ++ List.replicate 13 none, [(0, .ro 1 l.length (amtsF l))], 1⟩) (fun x => l.length - x.1.1) ⟨(0, 0), Nat.zero_le _, by rw [List.drop_zero]⟩ ?_ ?_
  · ((try dsimp only); refine Ent.renC [0] hC ?_ ?_ <;> repeat' (first | exact trivial | exact rfl | exact ⟨_, rfl, rfl, rfl, Nat.le_refl _, fun _ _ => rfl⟩ | exact ⟨_, rfl, rfl, rfl, fun _ _ => rfl⟩ | exact ⟨_, rfl, rfl, rfl⟩ | exact ⟨_, rfl, rfl⟩ | refine ⟨_, rfl, rfl, rfl, by omega, fun k hk => ?_⟩ | refine ⟨?_, ?_⟩ | fail))
  rintro ⟨⟨i, acc⟩, hi, hs⟩
  dsimp only at hi hs ⊢
  (refine Tri.cut 2 Tryz.mixed Tryz.T_ok ?_; refine xZ ?_)
  refine wC (fun h1 => ?_) (fun h1 => ?_)
  · (refine xG ?_)
    have h1' : i < l.length := xW
    have hw : IntKind.i64.wrap ((i : Int) + 1) = ((i + 1 : Nat) : Int) := xW
    rw [drop_cons h1', sumM] at hs
    refine wD <| cutG <| Tri.seq <| Tri.block <| Tri.of Tryz.mixed Tryz.T_ok ?_
    (refine xB ?_)
    (repeat (refine wN ?_ ?_; exact xW; refine xG ?_))
    simp only [Nat.zero_add, Int.toNat_natCast]
    cases h2 : bothB acc (l.getD i 0) (IntKind.i64.wrap (acc + l.getD i 0)) with
    | true =>
      rw [h2, if_pos rfl] at hs
      (apply wP; exact (call_op rfl (entersB_of Tryz.func154 (by kernel_rfl)) rfl (add_true h2 _ _)); refine xZ ?_)
      refine wD <| blockN <| cutG <| Tri.of Tryz.mixed Tryz.T_ok ?_
      (refine xB ?_)
      refine wD <| loopN ⟨⟨(i + 1, IntKind.i64.wrap (acc + l.getD i 0)), h1', hs⟩, by dsimp only; omega, ?_⟩
      rw [hw]
      ((try dsimp only); refine Ent.renC [0] hC ?_ ?_ <;> repeat' (first | exact trivial | exact rfl | exact ⟨_, rfl, rfl, rfl, Nat.le_refl _, fun _ _ => rfl⟩ | exact ⟨_, rfl, rfl, rfl, fun _ _ => rfl⟩ | exact ⟨_, rfl, rfl, rfl⟩ | exact ⟨_, rfl, rfl⟩ | refine ⟨_, rfl, rfl, rfl, by omega, fun k hk => ?_⟩ | refine ⟨?_, ?_⟩ | fail))
    | false =>
      rw [h2, if_neg (by simp)] at hs
      (apply wP; exact (call_op rfl (entersB_of Tryz.func154 (by kernel_rfl)) rfl (add_false h2 _ _)); refine xZ ?_)
      refine wD <| blockR <| cutR <| loopR <| blockR <| cutR <| Ends.plain (.inr rfl) rfl ?_
      rw [sumX, hs]; rfl
  · (refine xG ?_)
    have h1' : i = l.length := xW
    subst h1'
    rw [List.drop_length, sumM] at hs
    refine wD <| cutE <| loopX <| blockX <| cutG <| Tri.of Tryz.mixed Tryz.T_ok ?_
    (refine xB ?_)
    refine wD (Ends.plain (.inr rfl) rfl ?_)
    rw [sumX, hs]; rfl
end Go.Proofs.YtnpkdoggfnlapaaGreatDoor
namespace Go.Proofs.YtnpkdoggfnlapaaGreatDoor
set_option maxRecDepth 100000
open Go.Sx
def ptAt (id : H8) (i : Nat) : Pt := ⟨id, Int64.ofNat i⟩
def outsGo (id : H8) (h : Int64) (base : Bool) : USet → Nat → List OutM → USet × Int
  | S, _, [] => (S, 0)
  | S, i, o :: r => if S.has (ptAt id i) = true then (S, 6) else if S.okB (ptAt id i) ⟨o.to, o.amt, h, base⟩ = true then outsGo id h base (S.add1 (ptAt id i) ⟨o.to, o.amt, h, base⟩) (i + 1) r else (S, 5)
theorem dropD_cons {E : Type} [Inhabited E] {l : List E} {i : Nat} (hi : i < l.length) : l.drop i = l.getD i default :: l.drop (i + 1) := by
  rw [List.drop_eq_getElem_cons hi, List.getD_eq_getElem?_getD, List.getElem?_eq_getElem hi]; rfl
theorem ofNat_toInt {i : Nat} (h : i < 1000000) : ((i : Nat) : Int) = (Int64.ofNat i).toInt := by
  rw [Int64.toInt_ofNat_of_lt (by omega)]
structure OutsI (id : H8) (h : Int64) (base : Bool) (S : USet) (l : List OutM) where
  i : Nat
  W : USet
  le : i ≤ l.length
  go : outsGo id h base S 0 l = outsGo id h base W i (l.drop i)
  steps : W.steps.length = S.steps.length + i
set_option maxHeartbeats 2000000 in
theorem outs_can (S : USet) (id : H8) (l : List OutM) (h : Int64) (base : Bool) (hl : l.length ≤ 1000) (hS : S.steps.length < 900000) :
    Acts Tryz.prog 52 (.abs (usetP S)) (.abs (usetP (outsGo id h base S 0 l).1)) [.plain id.x, .row 9 l.length (outsF l), .plain (.one (.raw (.int .i64 h.toInt))), .plain (.one (.raw (.bool base)))] [] (XV.int .i64 (outsGo id h base S 0 l).2) := by
  refine Acts.of Tryz.T_ok Tryz.func52 rfl _ _ _ _ _ rfl rfl rfl (fun C hC => ?_)
  (replace hC : C.n0 = 5 := hC; change Tri _ _ _ ⟨_, _, 5⟩ _)
  (refine Tri.cut 2 Tryz.mixed Tryz.T_ok ?_; refine xZ ?_)
  refine wD <| cutG <| Tri.seq ?_
  (refine Tri.cut 1 Tryz.mixed Tryz.T_ok ?_; refine xZ ?_)
  refine wD <| cutG <| Tri.block ?_
  refine Tri.loop (α := OutsI id h base S l) (fun x => ⟨[some (XV.sv (.ptr 0 0 0 0)), none, none, some (XV.int .i64 h.toInt), some (XV.bool base), none, some (XV.sv (.ptr 5 0 0 0))] ++ List.replicate 11 none ++ [some (XV.sv (.slc 2 9 0 l.length)), some (XV.int .i64 l.length), some (XV.int .i64 x.i)] ++ List.replicate 23 none, [(0, .abs (usetP x.W)), (2, .ro 9 l.length (outsF l)), (5, .cells 29 (id.cells.map .raw))], 6⟩) (fun x => l.length - x.i) ⟨0, S, Nat.zero_le _, by rw [List.drop_zero], rfl⟩ ?_ ?_
  · ((try dsimp only); refine Ent.renC [0, 1, 2, 3, 4, 5] hC ?_ ?_ <;> repeat' (first | exact trivial | exact rfl | exact ⟨_, rfl, rfl, rfl, Nat.le_refl _, fun _ _ => rfl⟩ | exact ⟨_, rfl, rfl, rfl, fun _ _ => rfl⟩ | exact ⟨_, rfl, rfl, rfl⟩ | exact ⟨_, rfl, rfl⟩ | refine ⟨_, rfl, rfl, rfl, by omega, fun k hk => ?_⟩ | refine ⟨?_, ?_⟩ | fail))
  rintro ⟨i, W, hi, hg, hst⟩
  dsimp only
  (refine Tri.cut 2 Tryz.mixed Tryz.T_ok ?_; refine xZ ?_)
  refine wC (fun h1 => ?_) (fun h1 => ?_)
  · (refine xG ?_)
    have h1' : i < l.length := xW
    have hw : IntKind.i64.wrap ((i : Int) + 1) = ((i + 1 : Nat) : Int) := xW
    have e64 := ofNat_toInt (i := i) (by omega)
    rw [dropD_cons h1', outsGo] at hg
    refine wD <| cutG <| Tri.seq <| Tri.block <| Tri.of Tryz.mixed Tryz.T_ok ?_
    (refine xB ?_)
    (repeat (refine wN ?_ ?_; exact xW; refine xG ?_))
    simp only [Nat.zero_add, Int.toNat_natCast]
    rw [e64]
    (apply wP; exact (call_op rfl (entersB_of Tryz.func21 (by kernel_rfl)) rfl (get_spec W (ptAt id i) rfl rfl)); refine xZ ?_)
    refine wC (fun h2 => ?_) (fun h2 => ?_)
    · rw [if_pos h2] at hg
      (refine xG ?_)
      refine wD <| blockR <| cutR <| loopR <| blockR <| cutR ?_
      rw [hg]
      exact Ends.shutN (.inr rfl) (Ent.refl _) rfl rfl rfl
    · rw [if_neg (by rw [h2]; simp)] at hg
      (refine xG ?_)
      (apply wP; exact (call_op rfl (entersB_of Tryz.func99 (by kernel_rfl)) rfl (uadd_spec W (ptAt id i) ⟨(l.getD i default).to, (l.getD i default).amt, h, base⟩ (by omega) rfl rfl)); refine xZ ?_)
      refine wC (fun h3 => ?_) (fun h3 => ?_)
      · have h3 : W.okB (ptAt id i) ⟨(l.getD i default).to, (l.getD i default).amt, h, base⟩ = false := by simpa using h3
        rw [if_neg (by rw [h3]; simp)] at hg
        (refine xG ?_)
        refine wD <| blockR <| cutR <| loopR <| blockR <| cutR ?_
        rw [hg, USet.add, if_neg (by rw [h3]; simp)]
        exact Ends.shutN (.inr rfl) (Ent.refl _) rfl rfl rfl
      · have h3 : W.okB (ptAt id i) ⟨(l.getD i default).to, (l.getD i default).amt, h, base⟩ = true := by simpa using h3
        rw [if_pos h3] at hg
        (refine xG ?_)
        refine wD <| blockN <| cutG <| Tri.of Tryz.mixed Tryz.T_ok ?_
        (refine xB ?_)
        refine wD <| loopN ⟨⟨i + 1, W.add1 (ptAt id i) ⟨(l.getD i default).to, (l.getD i default).amt, h, base⟩, h1', hg, by simp only [USet.add1, List.length_append, List.length_singleton]; omega⟩, by dsimp only; omega, ?_⟩
        rw [← e64, hw, USet.add, if_pos h3]
        ((try dsimp only); refine Ent.renC [0, 1, 2, 3, 4, 5] hC ?_ ?_ <;> repeat' (first | exact trivial | exact rfl | exact ⟨_, rfl, rfl, rfl, Nat.le_refl _, fun _ _ => rfl⟩ | exact ⟨_, rfl, rfl, rfl, fun _ _ => rfl⟩ | exact ⟨_, rfl, rfl, rfl⟩ | exact ⟨_, rfl, rfl⟩ | refine ⟨_, rfl, rfl, rfl, by omega, fun k hk => ?_⟩ | refine ⟨?_, ?_⟩ | fail))
  · (refine xG ?_)
    have h1' : i = l.length := xW
    subst h1'
    rw [List.drop_length, outsGo] at hg
    refine wD <| cutE <| loopX <| blockX <| cutG <| Tri.of Tryz.mixed Tryz.T_ok ?_
    rw [hg]
    (refine xB ?_)
    exact wD (Ends.shutN (.inr rfl) (Ent.refl _) rfl rfl rfl)
end Go.Proofs.YtnpkdoggfnlapaaGreatDoor
namespace Go.Proofs
open Go.Shelf
end Go.Proofs
namespace Go.Proofs.YtnpkdoggfnlapaaGreatDoor
set_option maxRecDepth 100000
open Go.Sx
theorem lend_par {M : Mem} {rd : List Nat} {p : ParM} {k : SV} (h : Lends M rd (.one k) (.row 8 p.keys.length (keysF p.keys))) : Lends M rd (.agg (parCells p k)) (.box p.ac) := lend_box ⟨rfl, rfl, rfl, h, trivial⟩
theorem lend_cert {M : Mem} {rd : List Nat} {c : CertM} {o s : SV} (h1 : Lends M rd (.one o) (.row 9 c.outs.length (outsF c.outs))) (h2 : Lends M rd (.one s) (.row 282 c.sigs.length (sgdsF c.sigs))) : Lends M rd (.agg (certCells c o s)) (.box c.ac) := by
  refine lend_box ⟨rfl, rfl, rfl, ?_⟩
  refine LendsC.raws ?_ _
  refine LendsC.raws ?_ _
  exact ⟨h1, h2, trivial⟩
def ClaimM.x (c : ClaimM) : CV := .agg (c.cells.map .raw)
def sgdOK (s : SgdM) : Bool := withinB s.key 0 4 && withinB s.sig.idx 0 255
def certN (c : CertM) : Bool := withinB c.side 0 7 && (withinB c.ep 0 400 && withinB c.qual 0 2147483647)
def certOK (c : CertM) : Bool := c.sigs.all sgdOK && (certN c && (outsOK c.outs && withinB (c.sigs.length : Int) 1 5))
def certM (c : CertM) : Mem := [(0, .ro 9 c.outs.length (outsF c.outs)), (1, .ro 282 c.sigs.length (sgdsF c.sigs)), (2, .cells 43 (boxC 0 c.ac))]
def certSt5 (c : CertM) (n : Bool) : St := ⟨[none, some (XV.sv (.ptr 2 0 0 0)), none, none, none, some (XV.bool n)] ++ List.replicate 44 none, certM c, 3⟩
set_option maxHeartbeats 2000000 in
theorem certOK_can (c : CertM) (ho : c.outs.length ≤ 1000000000) (hl : c.sigs.length ≤ 1000000000) : Reads Tryz.prog 138 [.box c.ac] [] (XV.bool (certOK c)) := by
  refine Reads.of Tryz.T_ok Tryz.func138 rfl _ _ _ rfl rfl (fun C hC => ?_)
  (replace hC : C.n0 = 2 := hC; change Tri _ _ _ ⟨_, _, 2⟩ _)
  (refine Tri.cut 1 Tryz.mixed Tryz.T_ok ?_; refine xZ ?_)
  refine wD <| cutG <| Tri.seq ?_
  (refine Tri.cut 1 Tryz.mixed Tryz.T_ok ?_; refine xZ ?_)
  refine wD <| cutG <| Tri.block ?_
  refine Tri.loop (α := { i : Nat // i ≤ c.sigs.length ∧ (c.sigs.take i).all sgdOK = true }) (fun i => ⟨[none, some (XV.sv (.ptr 2 0 0 0)), none, none, none, none, none, some (XV.sv (.slc 1 282 0 c.sigs.length)), some (XV.int .i64 c.sigs.length), some (XV.int .i64 i.1)] ++ List.replicate 40 none, certM c, 3⟩) (fun i => c.sigs.length - i.1) ⟨0, Nat.zero_le _, rfl⟩ ?_ ?_
  · unfold certM
    ((try dsimp only); refine Ent.renC [0, 1, 2] hC ?_ ?_ <;> repeat' (first | exact trivial | exact rfl | exact ⟨_, rfl, rfl, rfl, Nat.le_refl _, fun _ _ => rfl⟩ | exact ⟨_, rfl, rfl, rfl, fun _ _ => rfl⟩ | exact ⟨_, rfl, rfl, rfl⟩ | exact ⟨_, rfl, rfl⟩ | refine ⟨_, rfl, rfl, rfl, by omega, fun k hk => ?_⟩ | refine ⟨?_, ?_⟩ | fail))
  rintro ⟨i, hi, ha⟩
  dsimp only
  unfold certM
  (refine Tri.cut 2 Tryz.mixed Tryz.T_ok ?_; refine xZ ?_)
  refine wC (fun h1 => ?_) (fun h1 => ?_)
  · (refine xG ?_)
    have h1' : i < c.sigs.length := xW
    have hs := all_take_succ (p := sgdOK) h1'
    have hw : IntKind.i64.wrap ((i : Int) + 1) = ((i + 1 : Nat) : Int) := xW
    have bad : sgdOK (c.sigs.getD i default) = false → certOK c = false := fun h => by rw [certOK, all_false h1' h, Bool.false_and]
    refine wD <| cutG <| Tri.seq <| Tri.block <| Tri.of Tryz.mixed Tryz.T_ok ?_
    (refine xB ?_)
    (repeat (refine wN ?_ ?_; exact xW; refine xG ?_))
    simp only [Nat.zero_add, Int.toNat_natCast]
    (apply wP; exact (call_op rfl (entersB_of Tryz.func134 (by kernel_rfl)) rfl ((within_can (c.sigs.getD i default).key 0 4).at [] ⟨lend_plain rfl, lend_plain rfl, lend_plain rfl, trivial⟩ trivial)); refine xZ ?_)
    refine wC (fun h2 => ?_) (fun h2 => ?_)
    · have h2 : withinB (c.sigs.getD i default).key 0 4 = false := by simpa using h2
      (refine xG ?_)
      refine wD <| blockR <| cutR <| loopR <| blockR <| cutR <| Ends.plain (.inr rfl) rfl ?_
      rw [bad (by rw [sgdOK, h2]; rfl)]
    have h2 : withinB (c.sigs.getD i default).key 0 4 = true := by simpa using h2
    (refine xG ?_)
    (apply wP; exact (call_op rfl (entersB_of Tryz.func134 (by kernel_rfl)) rfl ((within_can (c.sigs.getD i default).sig.idx 0 255).at [] ⟨lend_plain rfl, lend_plain rfl, lend_plain rfl, trivial⟩ trivial)); refine xZ ?_)
    refine wC (fun h3 => ?_) (fun h3 => ?_)
    · have h3 : withinB (c.sigs.getD i default).sig.idx 0 255 = false := by simpa using h3
      (refine xG ?_)
      refine wD <| blockR <| cutR <| loopR <| blockR <| cutR <| Ends.plain (.inr rfl) rfl ?_
      rw [bad (by rw [sgdOK, h2, h3]; rfl)]
    · have h3 : withinB (c.sigs.getD i default).sig.idx 0 255 = true := by simpa using h3
      (refine xG ?_)
      refine wD <| blockN <| cutG <| Tri.of Tryz.mixed Tryz.T_ok ?_
      (refine xB ?_)
      refine wD <| loopN ⟨⟨i + 1, h1', by rw [hs, ha, sgdOK, h2, h3]; rfl⟩, by dsimp only; omega, ?_⟩
      rw [hw]
      ((try dsimp only); refine Ent.renC [0, 1, 2] hC ?_ ?_ <;> repeat' (first | exact trivial | exact rfl | exact ⟨_, rfl, rfl, rfl, Nat.le_refl _, fun _ _ => rfl⟩ | exact ⟨_, rfl, rfl, rfl, fun _ _ => rfl⟩ | exact ⟨_, rfl, rfl, rfl⟩ | exact ⟨_, rfl, rfl⟩ | refine ⟨_, rfl, rfl, rfl, by omega, fun k hk => ?_⟩ | refine ⟨?_, ?_⟩ | fail))
  · (refine xG ?_)
    have h1' : i = c.sigs.length := xW
    subst h1'
    rw [List.take_length] at ha
    refine wD <| cutE <| loopX <| blockX <| cutG <| Tri.merge (certSt5 c (certN c)) (Tri.of Tryz.mixed Tryz.T_ok ?_) (Tri.of Tryz.mixed Tryz.T_ok ?_)
    · have fin : ∀ {S : St} {b : Bool}, b = certN c → Ent C S (certSt5 c b) → Ent C S (certSt5 c (certN c)) := by
        intro S b hb h; subst hb; exact h
      (refine xB ?_)
      (apply wP; exact (call_op rfl (entersB_of Tryz.func134 (by kernel_rfl)) rfl ((within_can c.side 0 7).at [] ⟨lend_plain rfl, lend_plain rfl, lend_plain rfl, trivial⟩ trivial)); refine xZ ?_)
      refine wC (fun k1 => ?_) (fun k1 => ?_)
      · (refine xG ?_)
        (apply wP; exact (call_op rfl (entersB_of Tryz.func134 (by kernel_rfl)) rfl ((within_can c.ep 0 400).at [] ⟨lend_plain rfl, lend_plain rfl, lend_plain rfl, trivial⟩ trivial)); refine xZ ?_)
        refine wC (fun k2 => ?_) (fun k2 => ?_)
        · (refine xG ?_)
          (apply wP; exact (call_op rfl (entersB_of Tryz.func134 (by kernel_rfl)) rfl ((within_can c.qual 0 2147483647).at [] ⟨lend_plain rfl, lend_plain rfl, lend_plain rfl, trivial⟩ trivial)); refine xZ ?_)
          refine wD ⟨rfl, fin (b := withinB c.qual 0 2147483647) (by rw [certN, k1, k2]; rfl) ?_⟩
          unfold certSt5 certM
          ((try dsimp only); refine Ent.renC [0, 1, 2] hC ?_ ?_ <;> repeat' (first | exact trivial | exact rfl | exact ⟨_, rfl, rfl, rfl, Nat.le_refl _, fun _ _ => rfl⟩ | exact ⟨_, rfl, rfl, rfl, fun _ _ => rfl⟩ | exact ⟨_, rfl, rfl, rfl⟩ | exact ⟨_, rfl, rfl⟩ | refine ⟨_, rfl, rfl, rfl, by omega, fun k hk => ?_⟩ | refine ⟨?_, ?_⟩ | fail))
        · (refine xG ?_)
          refine wD ⟨rfl, fin (b := false) (by rw [certN, k1, k2]; rfl) ?_⟩
          unfold certSt5 certM
          ((try dsimp only); refine Ent.renC [0, 1, 2] hC ?_ ?_ <;> repeat' (first | exact trivial | exact rfl | exact ⟨_, rfl, rfl, rfl, Nat.le_refl _, fun _ _ => rfl⟩ | exact ⟨_, rfl, rfl, rfl, fun _ _ => rfl⟩ | exact ⟨_, rfl, rfl, rfl⟩ | exact ⟨_, rfl, rfl⟩ | refine ⟨_, rfl, rfl, rfl, by omega, fun k hk => ?_⟩ | refine ⟨?_, ?_⟩ | fail))
      · (refine xG ?_)
        refine wD ⟨rfl, fin (b := false) (by rw [certN, k1]; rfl) ?_⟩
        unfold certSt5 certM
        ((try dsimp only); refine Ent.renC [0, 1, 2] hC ?_ ?_ <;> repeat' (first | exact trivial | exact rfl | exact ⟨_, rfl, rfl, rfl, Nat.le_refl _, fun _ _ => rfl⟩ | exact ⟨_, rfl, rfl, rfl, fun _ _ => rfl⟩ | exact ⟨_, rfl, rfl, rfl⟩ | exact ⟨_, rfl, rfl⟩ | refine ⟨_, rfl, rfl, rfl, by omega, fun k hk => ?_⟩ | refine ⟨?_, ?_⟩ | fail))
    · unfold certSt5 certM
      have hc0 : certOK c = (certN c && (outsOK c.outs && withinB (c.sigs.length : Int) 1 5)) := by rw [certOK, ha, Bool.true_and]
      rw [hc0]
      generalize certN c = bn
      (refine xB ?_)
      refine wC (fun k1 => ?_) (fun k1 => ?_)
      · subst k1
        (refine xG ?_)
        (apply wP; exact (call_op rfl (entersB_of Tryz.func135 (by kernel_rfl)) rfl ((outsOK_can c.outs ho).at [0] ⟨lend_ro0 rfl rfl, trivial⟩ trivial)); refine xZ ?_)
        refine wC (fun k2 => ?_) (fun k2 => ?_)
        · (refine xG ?_)
          (apply wP; exact (call_op rfl (entersB_of Tryz.func134 (by kernel_rfl)) rfl ((within_can (c.sigs.length : Int) 1 5).at [] ⟨lend_plain rfl, lend_plain rfl, lend_plain rfl, trivial⟩ trivial)); refine xZ ?_)
          exact wD (Ends.plain (.inr rfl) rfl (by rw [k2]; rfl))
        · (refine xG ?_)
          exact wD (Ends.plain (.inr rfl) rfl (by rw [k2]; rfl))
      · subst k1
        (refine xG ?_)
        exact wD (Ends.plain (.inr rfl) rfl rfl)
def claimOK (c : ClaimM) : Bool := acctB c.side c.acct && (!zeroB c.st.owner && (moneyB c.st.amt && withinB c.st.nonce 0 255))
def TxM.bare4 (t : TxM) : TxM := { t with cert := cert0 }
set_option maxHeartbeats 4000000 in
theorem may4_can (t : TxM) (hk : t.kind = 4) (hs : Sized t) (hc : t.claim.Wf) : Reads Tryz.prog 82 [.box t.ac] [] (XV.bool (certOK t.cert && (emptyB t.bare4 && claimZ t.claim hc))) := by
  have ho := hs.couts
  have hg := hs.sigs
  have hs' : Sized t.bare4 := ⟨hs.ins, hs.outs, hs.fwds, hs.keys, Nat.zero_le _, Nat.zero_le _⟩
  obtain ⟨kind, height, ins, outs, fwds, par, cert, claim⟩ := t
  dsimp only at hk ho hg
  subst hk
  refine Reads.of Tryz.T_ok Tryz.func82 rfl _ _ _ rfl rfl (fun C hC => ?_)
  (replace hC : C.n0 = 6 := hC; change Tri _ _ _ ⟨_, _, 6⟩ _)
  refine Tri.of Tryz.mixed Tryz.T_ok ?_
  (refine xB ?_)
  (refine wFd rfl ?_; refine xG ?_)
  (refine wFd rfl ?_; refine xG ?_)
  (refine wFd rfl ?_; refine xG ?_)
  (refine wTd rfl ?_; refine xG ?_)
  (apply wP; exact (call_op rfl (entersB_of Tryz.func138 (by kernel_rfl)) rfl ((certOK_can cert ho hg).at [4, 5] ⟨lend_cert (lend_ro0 rfl rfl) (lend_ro0 rfl rfl), trivial⟩ trivial)); refine xZ ?_)
  refine wC (fun h1 => ?_) (fun h1 => ?_)
  · (refine xG ?_)
    (apply wP; exact (call_op rfl (entersB_of Tryz.func140 (by kernel_rfl)) rfl ((empty_can (TxM.bare4 ⟨4, height, ins, outs, fwds, par, cert, claim⟩) hs' hc).at [0, 1, 2, 3] ⟨lend_tx (t := TxM.bare4 ⟨4, height, ins, outs, fwds, par, cert, claim⟩) (lend_ro0 rfl rfl) (lend_ro0 rfl rfl) (lend_ro0 rfl rfl) (lend_ro0 rfl rfl) (lend_nil _ _) (lend_nil _ _), trivial⟩ trivial)); refine xZ ?_)
    exact wD (Ends.plain (.inr rfl) rfl (by rw [h1]; rfl))
  · (refine xG ?_)
    exact wD (Ends.plain (.inr rfl) rfl (by rw [h1]; rfl))
end Go.Proofs.YtnpkdoggfnlapaaGreatDoor
