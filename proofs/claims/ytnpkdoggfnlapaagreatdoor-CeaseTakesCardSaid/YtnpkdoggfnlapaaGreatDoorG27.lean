/- Parts Zs Zt Zu Zn Zw. -/
import Derived.Test.YtnpkdoggfnlapaaGreatDoorG26
import Derived.Test.YtnpkdoggfnlapaaGreatDoorG20
import Derived.Test.YtnpkdoggfnlapaaGreatDoorG24
import Derived.Test.YtnpkdoggfnlapaaGreatDoorG25
import Derived.Test.YtnpkdoggfnlapaaGreatDoorG13
import Derived.LaidMore
import Derived.LaidHandle
import Derived.MakeChecks
import Derived.Stop.Joined
set_option linter.unusedSimpArgs false
set_option linter.unusedVariables false
namespace Go.Proofs.YtnpkdoggfnlapaaGreatDoor
set_option maxRecDepth 100000
open Go.Sx
def haSt (l : List H8) (i : Nat) : St :=
  ⟨[some (XV.sv (.slc 0 8 0 l.length)), some (XV.sv (.slc 1 8 0 l.length)), none, none, none, some (XV.int .i64 i)] ++ List.replicate 20 none, [(0, .ro 8 l.length (keysF l)), (1, .ro 8 l.length (keysF l))], 2⟩
set_option maxHeartbeats 4000000 in
theorem hashes_can (l : List H8) (hl : l.length ≤ 1000000) : Reads Tryz.prog 129 [.row 8 l.length (keysF l), .row 8 l.length (keysF l)] [] (XV.bool true) := by
  refine Reads.of Tryz.T_ok Tryz.func129 rfl _ _ _ rfl rfl (fun C hC => ?_)
  (replace hC : C.n0 = 2 := hC; change Tri _ _ _ ⟨_, _, 2⟩ _)
  (refine Tri.cut 2 Tryz.mixed Tryz.T_ok ?_; refine xZ ?_)
  refine wFd (by simp) ?_
  (refine xG ?_)
  refine wD <| cutG <| Tri.seq ?_
  (refine Tri.cut 1 Tryz.mixed Tryz.T_ok ?_; refine xZ ?_)
  refine wD <| cutG <| Tri.block ?_
  refine Tri.loop (α := { i : Nat // i ≤ l.length }) (fun i => haSt l i.1) (fun i => l.length - i.1) ⟨0, Nat.zero_le _⟩ ?_ ?_
  · unfold haSt
    ((try dsimp only); refine Ent.renC [0, 1] hC ?_ ?_ <;> repeat' (first | exact trivial | exact rfl | exact ⟨_, rfl, rfl, rfl, Nat.le_refl _, fun _ _ => rfl⟩ | exact ⟨_, rfl, rfl, rfl, fun _ _ => rfl⟩ | exact ⟨_, rfl, rfl, rfl⟩ | exact ⟨_, rfl, rfl⟩ | refine ⟨_, rfl, rfl, rfl, by omega, fun k hk => ?_⟩ | refine ⟨?_, ?_⟩ | fail))
  rintro ⟨i, hi⟩
  dsimp only
  unfold haSt
  (refine Tri.cut 1 Tryz.mixed Tryz.T_ok ?_; refine xZ ?_)
  refine wC (fun h1 => ?_) (fun h1 => ?_)
  · (refine xG ?_)
    have h1' : i < l.length := xW
    have hw : IntKind.i64.wrap ((i : Int) + 1) = ((i + 1 : Nat) : Int) := xW
    refine wD <| cutG <| Tri.seq <| Tri.block <| Tri.of Tryz.mixed Tryz.T_ok ?_
    (refine xB ?_)
    (repeat (refine wN ?_ ?_; exact xW; refine xG ?_))
    simp only [Nat.zero_add, Int.toNat_natCast]
    (refine wP _ _ (neq_op hashE rfl (l.getD i default) (l.getD i default) rfl rfl) ?_; refine xZ ?_)
    refine wFd (by simp) ?_
    (refine xG ?_)
    refine wD <| blockN <| cutG <| Tri.of Tryz.mixed Tryz.T_ok ?_
    (refine xB ?_)
    refine wD <| loopN ⟨⟨i + 1, h1'⟩, by dsimp only; omega, ?_⟩
    rw [hw]
    ((try dsimp only); refine Ent.renC [0, 1] hC ?_ ?_ <;> repeat' (first | exact trivial | exact rfl | exact ⟨_, rfl, rfl, rfl, Nat.le_refl _, fun _ _ => rfl⟩ | exact ⟨_, rfl, rfl, rfl, fun _ _ => rfl⟩ | exact ⟨_, rfl, rfl, rfl⟩ | exact ⟨_, rfl, rfl⟩ | refine ⟨_, rfl, rfl, rfl, by omega, fun k hk => ?_⟩ | refine ⟨?_, ?_⟩ | fail))
  · (refine xG ?_)
    refine wD <| cutE <| loopX <| blockX <| cutG <| Tri.of Tryz.mixed Tryz.T_ok ?_
    (refine xB ?_)
    exact wD (Ends.plain (.inr rfl) rfl rfl)
def bareC (side ep qual : Int) (fin root : H8) : CertM := ⟨side, ep, qual, fin, root, [], []⟩
set_option maxHeartbeats 4000000 in
theorem sameCert0_can (side ep qual : Int) (fin root : H8) : Reads Tryz.prog 130 [.box (bareC side ep qual fin root).ac, .box (bareC side ep qual fin root).ac] [] (XV.bool true) := by
  refine Reads.of Tryz.T_ok Tryz.func130 rfl _ _ _ rfl rfl (fun C hC => ?_)
  (replace hC : C.n0 = 4 := hC; change Tri _ _ _ ⟨_, _, 4⟩ _)
  (refine Tri.cut 2 Tryz.mixed Tryz.T_ok ?_; refine xZ ?_)
  refine wFd (by simp) ?_
  (refine xG ?_)
  refine wFd (by simp) ?_
  (refine xG ?_)
  refine wFd (by simp) ?_
  (refine xG ?_)
  (refine wP _ _ (neq_op hashE rfl fin fin rfl rfl) ?_; refine xZ ?_)
  refine wFd (by simp) ?_
  (refine xG ?_)
  (refine wP _ _ (neq_op hashE rfl root root rfl rfl) ?_; refine xZ ?_)
  refine wFd (by simp) ?_
  (refine xG ?_)
  repeat (first | (refine wFd rfl ?_; refine xG ?_) | (refine wTd rfl ?_; refine xG ?_))
  refine wD <| cutG <| Tri.seq ?_
  (refine Tri.cut 1 Tryz.mixed Tryz.T_ok ?_; refine xZ ?_)
  refine wD <| cutG <| Tri.block (Tri.loop (α := Unit) (fun _ => _) (fun _ => 0) () (Ent.refl _) (fun _ => ?_))
  (refine Tri.cut 1 Tryz.mixed Tryz.T_ok ?_; refine xZ ?_)
  refine wC (fun h => absurd h (show ¬ decide ((0 : Int) < ((0 : Nat) : Int)) = true by decide)) (fun _ => ?_)
  (refine xG ?_)
  refine wD <| cutE <| loopX <| blockX <| cutG <| Tri.seq ?_
  (refine Tri.cut 1 Tryz.mixed Tryz.T_ok ?_; refine xZ ?_)
  refine wD <| cutG <| Tri.block (Tri.loop (α := Unit) (fun _ => _) (fun _ => 0) () (Ent.refl _) (fun _ => ?_))
  (refine Tri.cut 1 Tryz.mixed Tryz.T_ok ?_; refine xZ ?_)
  refine wC (fun h => absurd h (show ¬ decide ((0 : Int) < ((0 : Nat) : Int)) = true by decide)) (fun _ => ?_)
  (refine xG ?_)
  refine wD <| cutE <| loopX <| blockX <| cutG <| Tri.of Tryz.mixed Tryz.T_ok ?_
  (refine xB ?_)
  exact wD (Ends.plain (.inr rfl) rfl rfl)
structure Plain (x : SideM) : Prop where
  outs : x.cert.outs = []
  sigs : x.cert.sigs = []
def ssMem (x : SideM) : Mem :=
  [(0, .ro 8 x.par.keys.length (keysF x.par.keys)), (1, .ro 9 x.cert.outs.length (outsF x.cert.outs)), (2, .ro 282 x.cert.sigs.length (sgdsF x.cert.sigs)), (3, .ro 1 x.used.length (intsF x.used)), (4, .ro 8 x.par.keys.length (keysF x.par.keys)), (5, .ro 9 x.cert.outs.length (outsF x.cert.outs)), (6, .ro 282 x.cert.sigs.length (sgdsF x.cert.sigs)), (7, .ro 1 x.used.length (intsF x.used)), (8, .cells 68 (boxC 0 x.ac)), (9, .cells 109 (boxC 4 x.ac))]
def ssSt (x : SideM) (i : Nat) : St :=
  ⟨[none, none, some (XV.sv (.ptr 8 0 0 0)), some (XV.sv (.ptr 9 0 0 0)), none, some (XV.int .i64 i)] ++ List.replicate 130 none, ssMem x, 10⟩
set_option maxHeartbeats 8000000 in
theorem sameSide_can (x : SideM) (hx : x.Sized) (hp : Plain x) : Reads Tryz.prog 78 [.box x.ac, .box x.ac] [] (XV.bool true) := by
  have h1 := hx.keys
  have h4 := hx.used
  obtain ⟨par, made, bal, fwd, mat, clm, ceased, hgt, root, pend, ⟨cs, ce, cq, cf, cr, co, cg⟩, used⟩ := x
  obtain ⟨e1, e2⟩ := hp
  dsimp only at e1 e2 h1 h4
  subst e1
  subst e2
  have hcc := sameCert0_can cs ce cq cf cr
  refine Reads.of Tryz.T_ok Tryz.func78 rfl _ _ _ rfl rfl (fun C hC => ?_)
  (replace hC : C.n0 = 8 := hC; change Tri _ _ _ ⟨_, _, 8⟩ _)
  (refine Tri.cut 2 Tryz.mixed Tryz.T_ok ?_; refine xZ ?_)
  refine wFd (by simp) ?_
  (refine xG ?_)
  refine wFd (by simp) ?_
  (refine xG ?_)
  refine wFd (by simp) ?_
  (refine xG ?_)
  (apply wP; exact (call_op rfl (entersB_of Tryz.func129 (by kernel_rfl)) rfl ((hashes_can par.keys h1).at [0, 4] ⟨lend_ro0 rfl rfl, lend_ro0 rfl rfl, trivial⟩ trivial)); refine xZ ?_)
  refine wFd (by simp) ?_
  (refine xG ?_)
  refine wD <| cutG <| Tri.seq ?_
  (refine Tri.cut 1 Tryz.mixed Tryz.T_ok ?_; refine xZ ?_)
  refine wD <| cutG <| Tri.block ?_
  obtain ⟨x, hx'⟩ : ∃ x : SideM, (⟨par, made, bal, fwd, mat, clm, ceased, hgt, root, pend, ⟨cs, ce, cq, cf, cr, [], []⟩, used⟩ : SideM) = x := ⟨_, rfl⟩
  refine Tri.loop (α := { i : Nat // i ≤ used.length }) (fun i => ssSt (⟨par, made, bal, fwd, mat, clm, ceased, hgt, root, pend, ⟨cs, ce, cq, cf, cr, [], []⟩, used⟩ : SideM) i.1) (fun i => used.length - i.1) ⟨0, Nat.zero_le _⟩ ?_ ?_
  · unfold ssSt ssMem
    ((try dsimp only); refine Ent.renC [0, 1, 2, 3, 4, 5, 6, 7, 8, 9] hC ?_ ?_ <;> repeat' (first | exact trivial | exact rfl | exact ⟨_, rfl, rfl, rfl, Nat.le_refl _, fun _ _ => rfl⟩ | exact ⟨_, rfl, rfl, rfl, fun _ _ => rfl⟩ | exact ⟨_, rfl, rfl, rfl⟩ | exact ⟨_, rfl, rfl⟩ | refine ⟨_, rfl, rfl, rfl, by omega, fun k hk => ?_⟩ | refine ⟨?_, ?_⟩ | fail))
  rintro ⟨i, hi⟩
  dsimp only
  unfold ssSt ssMem
  (refine Tri.cut 1 Tryz.mixed Tryz.T_ok ?_; refine xZ ?_)
  refine wC (fun k1 => ?_) (fun k1 => ?_)
  · (refine xG ?_)
    have h1' : i < used.length := by have h9 : ((i : Nat) : Int) < ((used.length : Nat) : Int) := of_decide_eq_true k1; omega
    have hw : IntKind.i64.wrap ((i : Int) + 1) = ((i + 1 : Nat) : Int) := wrap_id (by omega)
    have hiI : (0 : Int) ≤ (i : Int) ∧ ((i : Nat) : Int) < ((used.length : Nat) : Int) := ⟨Int.natCast_nonneg _, Int.ofNat_lt.2 h1'⟩
    refine wD <| cutG <| Tri.seq <| Tri.block <| Tri.of Tryz.mixed Tryz.T_ok ?_
    (refine xB ?_)
    refine wN hiI ?_
    (refine xG ?_)
    simp only [Nat.zero_add, Int.toNat_natCast]
    refine wN h1' ?_
    (refine xG ?_)
    refine wN hiI ?_
    (refine xG ?_)
    simp only [Nat.zero_add, Int.toNat_natCast]
    refine wN h1' ?_
    (refine xG ?_)
    refine wFd (by simp) ?_
    (refine xG ?_)
    refine wD <| blockN <| cutG <| Tri.of Tryz.mixed Tryz.T_ok ?_
    (refine xB ?_)
    refine wD <| loopN ⟨⟨i + 1, h1'⟩, by dsimp only; omega, ?_⟩
    rw [hw]
    ((try dsimp only); refine Ent.renC [0, 1, 2, 3, 4, 5, 6, 7, 8, 9] hC ?_ ?_ <;> repeat' (first | exact trivial | exact rfl | exact ⟨_, rfl, rfl, rfl, Nat.le_refl _, fun _ _ => rfl⟩ | exact ⟨_, rfl, rfl, rfl, fun _ _ => rfl⟩ | exact ⟨_, rfl, rfl, rfl⟩ | exact ⟨_, rfl, rfl⟩ | refine ⟨_, rfl, rfl, rfl, by omega, fun k hk => ?_⟩ | refine ⟨?_, ?_⟩ | fail))
  · (refine xG ?_)
    refine wD <| cutE <| loopX <| blockX <| cutG <| Tri.of Tryz.mixed Tryz.T_ok ?_
    (refine xB ?_)
    refine wTd (by simp) ?_
    (refine xG ?_)
    refine wTd (by simp) ?_
    (refine xG ?_)
    refine wTd (by simp) ?_
    (refine xG ?_)
    refine wTd (by simp) ?_
    (refine xG ?_)
    refine wTd (by simp) ?_
    (refine xG ?_)
    refine wTd (by simp) ?_
    (refine xG ?_)
    refine wTd (by simp) ?_
    (refine xG ?_)
    (refine wP _ _ (eq_op hashE rfl root root rfl rfl) ?_; refine xZ ?_)
    refine wTd (by simp) ?_
    (refine xG ?_)
    refine wTd (by simp) ?_
    (refine xG ?_)
    (apply wP; exact (call_op rfl (entersB_of Tryz.func130 (by kernel_rfl)) rfl (hcc.at [1, 2, 5, 6] ⟨lend_cert (c := bareC cs ce cq cf cr) (lend_ro0 rfl rfl) (lend_ro0 rfl rfl), lend_cert (c := bareC cs ce cq cf cr) (lend_ro0 rfl rfl) (lend_ro0 rfl rfl), trivial⟩ trivial)); refine xZ ?_)
    exact wD (Ends.plain (.inr rfl) rfl rfl)
end Go.Proofs.YtnpkdoggfnlapaaGreatDoor
namespace Go.Proofs.YtnpkdoggfnlapaaGreatDoor
set_option maxRecDepth 100000
open Go.Sx
def totN (L : List SideM) : Nat → Int
  | 0 => 0
  | i + 1 => IntKind.i64.wrap (totN L i + (L.getD i default).bal)
def toSt (L : List SideM) (ad : Nat → Nat → Option Addr × Nat) (i : Nat) : St :=
  ⟨[none, none, none, some (XV.int .i64 (totN L i)), none, none, none, none, none, none, none, some (XV.sv (.slc 1 42 0 L.length)), some (XV.int .i64 L.length), some (XV.int .i64 i)] ++ List.replicate 9 none,
   [(0, .cells rgS [.slc 1 42 0 L.length]), (1, .vec rgE 42 L.length fun i => fillA 0 (regF L i) (ad i)), (2, .abs (PartsO L.length (regF L) ad))], 3⟩
set_option maxHeartbeats 4000000 in
theorem rtotal_can (L : List SideM) (h0 : 0 < L.length) (hl : L.length ≤ 1000000) : Acts Tryz.prog 76 (.abs (pReg L)) (.abs (pReg L)) [] [] (XV.int .i64 (totN L L.length)) := by
  refine Acts.of Tryz.T_ok Tryz.func76 rfl _ _ _ _ _ rfl rfl rfl (fun C hC => ?_)
  (replace hC : C.n0 = 1 := hC; change Tri _ _ _ ⟨_, _, 1⟩ _)
  refine Reg.opens rgS rgE L 0 h0 rfl (Nat.le_of_ble_eq_true rfl) (fun ad => ?_)
  (refine Tri.cut 3 Tryz.mixed Tryz.T_ok ?_; refine xZ ?_)
  refine wD <| cutG <| Tri.seq ?_
  (refine Tri.cut 1 Tryz.mixed Tryz.T_ok ?_; refine xZ ?_)
  refine wD <| cutG <| Tri.block ?_
  refine Tri.loop (α := { i : Nat // i ≤ L.length }) (fun i => toSt L ad i.1) (fun i => L.length - i.1) ⟨0, Nat.zero_le _⟩ ?_ ?_
  · unfold toSt
    ((try dsimp only); refine Ent.renC [0, 2, 3] hC ?_ ?_ <;> repeat' (first | exact trivial | exact rfl | exact ⟨_, rfl, rfl, rfl, Nat.le_refl _, fun _ _ => rfl⟩ | exact ⟨_, rfl, rfl, rfl, fun _ _ => rfl⟩ | exact ⟨_, rfl, rfl, rfl⟩ | exact ⟨_, rfl, rfl⟩ | refine ⟨_, rfl, rfl, rfl, by omega, fun k hk => ?_⟩ | refine ⟨?_, ?_⟩ | fail))
  rintro ⟨i, hi⟩
  dsimp only
  unfold toSt
  (refine Tri.cut 2 Tryz.mixed Tryz.T_ok ?_; refine xZ ?_)
  refine wC (fun h1 => ?_) (fun h1 => ?_)
  · (refine xG ?_)
    have h1' : i < L.length := xW
    have hw : IntKind.i64.wrap ((i : Int) + 1) = ((i + 1 : Nat) : Int) := xW
    refine wD <| cutG <| Tri.seq <| Tri.block <| Tri.of Tryz.mixed Tryz.T_ok ?_
    (refine xB ?_)
    (repeat (refine wN ?_ ?_; exact xW; refine xG ?_))
    simp only [Nat.zero_add, Int.toNat_natCast]
    refine wD <| blockN <| cutG <| Tri.of Tryz.mixed Tryz.T_ok ?_
    (refine xB ?_)
    refine wD <| loopN ⟨⟨i + 1, h1'⟩, by dsimp only; omega, ?_⟩
    rw [hw]
    ((try dsimp only); refine Ent.renC [0, 1, 2] hC ?_ ?_ <;> repeat' (first | exact trivial | exact rfl | exact ⟨_, rfl, rfl, rfl, Nat.le_refl _, fun _ _ => rfl⟩ | exact ⟨_, rfl, rfl, rfl, fun _ _ => rfl⟩ | exact ⟨_, rfl, rfl, rfl⟩ | exact ⟨_, rfl, rfl⟩ | refine ⟨_, rfl, rfl, rfl, by omega, fun k hk => ?_⟩ | refine ⟨?_, ?_⟩ | fail))
  · (refine xG ?_)
    have h1' : i = L.length := xW
    subst h1'
    refine wD <| cutE <| loopX <| blockX <| cutG <| Tri.of Tryz.mixed Tryz.T_ok ?_
    (refine xB ?_)
    exact wD (Ends.shutN (.inr rfl) (Reg.shutsO rgS rgE L L 0 (i1 := 1) (q := 2) (ad := ad) h0 rfl rfl rfl rfl rfl rfl (fun _ _ => rfl) regF_raw) rfl rfl rfl)
theorem get3 {a b e ch : Chunk} {i : Nat} (h : Mem.get [(0, a), (1, b), (2, e)] i = some ch) : (i = 0 ∧ ch = a) ∨ (i = 1 ∧ ch = b) ∨ (i = 2 ∧ ch = e) := by
  match i with
  | 0 => exact .inl ⟨rfl, (Option.some.inj h).symm⟩
  | 1 => exact .inr (.inl ⟨rfl, (Option.some.inj h).symm⟩)
  | 2 => exact .inr (.inr ⟨rfl, (Option.some.inj h).symm⟩)
  | i + 3 => cases (show (none : Option Chunk) = some ch from h)
def rregM (L : List SideM) (ad : Nat → Nat → Option Addr × Nat) : Mem :=
  [(0, .cells rrS [.slc 1 42 0 L.length]), (1, .vec rrE 42 L.length fun i => fillA 0 (regF L i) (ad i)), (2, .abs (PartsO L.length (regF L) ad))]
theorem reg_reads {f : FuncId} {fn : Func} {body : Code} (hf : Tryz.prog.funcs[f]? = some fn) (hb : fn.body = some body) (L : List SideM) (ad : Nat → Nat → Option Addr × Nat) (X : XV) (hX : X.ok (fun _ => false) = true) {M : Mem} {c i1 i2 d : Nat}
    (k0 : M.get c = some (.cells rrS [.slc i1 42 0 L.length])) (k1 : M.get i1 = some (.vec rrE 42 L.length fun i => fillA 0 (regF L i) (ad i))) (k2 : M.get i2 = some (.abs (PartsO L.length (regF L) ad))) (hdist : (Nat.beq c i1 || Nat.beq c i2 || Nat.beq i1 i2) = false) (hd : (Nat.beq d c || Nat.beq d i1 || Nat.beq d i2) = false)
    (h : ∀ C : Ctx, C.n0 = 3 → Tri Tryz.prog C body ⟨slots0 fn.ntmps [.cv (.one (.ptr 0 0 0 0))], rregM L ad, 3⟩ (Sx.Ends C Tryz.T fn.results.toList 3 3 ⟨X, rregM L ad, none⟩)) :
    CallSpec Tryz.prog f [.one (.ptr c 0 0 0)] M d { v := X, upd := [(c, .cells rrS [.slc i1 42 0 L.length]), (i1, .vec rrE 42 L.length fun i => fillA 0 (regF L i) (ad i)), (i2, .abs (PartsO L.length (regF L) ad))], wr := [c, i1, i2] } [c, i1, i2] := by
  simp only [Bool.or_eq_false_iff, nbeq, decide_eq_false_iff_not] at hdist hd
  obtain ⟨⟨n1, n2⟩, n3⟩ := hdist
  obtain ⟨⟨m1, m2⟩, m3⟩ := hd
  refine spec_of_open (ids := [c, i1, i2]) (rids := []) (k1 := 3) (n0 := 3) (Xl := [.one (.ptr 0 0 0 0)]) (M0 := rregM L ad) (out := ⟨X, rregM L ad, none⟩) Tryz.T_ok hf hb (by simp [n1, n2, n3]) rfl rfl (by simp [m1, m2, m3]) rfl (fun i ch hi => ?_) (fun i ch hi => ?_) (fun i ch hi => by cases hi) (XV.ok_mono (fun _ h => by cases h) hX) h rfl (XV.ren_closed hX).symm rfl (fun q ch hq => ?_)
  · rcases get3 hi with ⟨rfl, rfl⟩ | ⟨rfl, rfl⟩ | ⟨rfl, rfl⟩
    · exact ⟨by decide, rfl, fun h => by omega, fun ci hci => by simp at hci; subst hci; exact k0⟩
    · exact ⟨by decide, rfl, fun h => by omega, fun ci hci => by simp at hci; subst hci; exact k1⟩
    · exact ⟨by decide, rfl, fun h => by omega, fun ci hci => by simp at hci; subst hci; exact k2⟩
  · rcases get3 hi with ⟨rfl, rfl⟩ | ⟨rfl, rfl⟩ | ⟨rfl, rfl⟩ <;> exact ⟨rfl, rfl⟩
  · simp only [Mem.get, nbeq] at hq
    by_cases e0 : c = q
    · subst e0; simp at hq; subst hq; exact ⟨.cells rrS [.slc 1 42 0 L.length], rfl, .inl ⟨0, rfl, rfl⟩⟩
    · by_cases e1 : i1 = q
      · subst e1; simp [e0] at hq; subst hq; exact ⟨_, rfl, .inl ⟨1, rfl, rfl⟩⟩
      · by_cases e2 : i2 = q
        · subst e2; simp [e0, e1] at hq; subst hq; exact ⟨_, rfl, .inl ⟨2, rfl, rfl⟩⟩
        · simp [e0, e1, e2] at hq
def stSt (L : List SideM) (ad : Nat → Nat → Option Addr × Nat) (i : Nat) : St :=
  ⟨[some (XV.sv (.ptr 0 0 0 0)), none, none, some (XV.int .i64 (totN L i)), some (XV.int .i64 i)] ++ List.replicate 20 none, rregM L ad, 3⟩
set_option maxHeartbeats 4000000 in
theorem stotal_open (L : List SideM) (ad : Nat → Nat → Option Addr × Nat) (hl : L.length ≤ 1000000) {M : Mem} {c i1 i2 d : Nat} (k0 : M.get c = some (.cells rrS [.slc i1 42 0 L.length])) (k1 : M.get i1 = some (.vec rrE 42 L.length fun i => fillA 0 (regF L i) (ad i))) (k2 : M.get i2 = some (.abs (PartsO L.length (regF L) ad))) (hdist : (Nat.beq c i1 || Nat.beq c i2 || Nat.beq i1 i2) = false) (hd : (Nat.beq d c || Nat.beq d i1 || Nat.beq d i2) = false) :
    CallSpec Tryz.prog 77 [.one (.ptr c 0 0 0)] M d { v := XV.int .i64 (totN L L.length), upd := [(c, .cells rrS [.slc i1 42 0 L.length]), (i1, .vec rrE 42 L.length fun i => fillA 0 (regF L i) (ad i)), (i2, .abs (PartsO L.length (regF L) ad))], wr := [c, i1, i2] } [c, i1, i2] := by
  refine reg_reads Tryz.func77 rfl L ad _ rfl k0 k1 k2 hdist hd (fun C hC => ?_)
  unfold rregM
  (refine Tri.cut 2 Tryz.mixed Tryz.T_ok ?_; refine xZ ?_)
  refine wD <| cutG <| Tri.seq ?_
  (refine Tri.cut 1 Tryz.mixed Tryz.T_ok ?_; refine xZ ?_)
  refine wD <| cutG <| Tri.block ?_
  refine Tri.loop (α := { i : Nat // i ≤ L.length }) (fun i => stSt L ad i.1) (fun i => L.length - i.1) ⟨0, Nat.zero_le _⟩ ?_ ?_
  · unfold stSt rregM
    ((try dsimp only); refine Ent.renC [0, 1, 2] hC ?_ ?_ <;> repeat' (first | exact trivial | exact rfl | exact ⟨_, rfl, rfl, rfl, Nat.le_refl _, fun _ _ => rfl⟩ | exact ⟨_, rfl, rfl, rfl, fun _ _ => rfl⟩ | exact ⟨_, rfl, rfl, rfl⟩ | exact ⟨_, rfl, rfl⟩ | refine ⟨_, rfl, rfl, rfl, by omega, fun k hk => ?_⟩ | refine ⟨?_, ?_⟩ | fail))
  rintro ⟨i, hi⟩
  dsimp only
  unfold stSt rregM
  (refine Tri.cut 1 Tryz.mixed Tryz.T_ok ?_; refine xZ ?_)
  refine wC (fun h1 => ?_) (fun h1 => ?_)
  · (refine xG ?_)
    have h1' : i < L.length := xW
    have hw : IntKind.i64.wrap ((i : Int) + 1) = ((i + 1 : Nat) : Int) := xW
    refine wD <| cutG <| Tri.seq <| Tri.block <| Tri.of Tryz.mixed Tryz.T_ok ?_
    (refine xB ?_)
    (repeat (refine wN ?_ ?_; exact xW; refine xG ?_))
    simp only [Nat.zero_add, Int.toNat_natCast]
    refine wD <| blockN <| cutG <| Tri.of Tryz.mixed Tryz.T_ok ?_
    (refine xB ?_)
    refine wD <| loopN ⟨⟨i + 1, h1'⟩, by dsimp only; omega, ?_⟩
    rw [hw]
    ((try dsimp only); refine Ent.renC [0, 1, 2] hC ?_ ?_ <;> repeat' (first | exact trivial | exact rfl | exact ⟨_, rfl, rfl, rfl, Nat.le_refl _, fun _ _ => rfl⟩ | exact ⟨_, rfl, rfl, rfl, fun _ _ => rfl⟩ | exact ⟨_, rfl, rfl, rfl⟩ | exact ⟨_, rfl, rfl⟩ | refine ⟨_, rfl, rfl, rfl, by omega, fun k hk => ?_⟩ | refine ⟨?_, ?_⟩ | fail))
  · (refine xG ?_)
    have h1' : i = L.length := xW
    subst h1'
    refine wD <| cutE <| loopX <| blockX <| cutG <| Tri.of Tryz.mixed Tryz.T_ok ?_
    (refine xB ?_)
    refine wD ⟨.inr rfl, _, Ent.refl _, rfl, fun i ch hi => ?_, fun i ch h => by cases h⟩
    rcases get3 hi with ⟨rfl, rfl⟩ | ⟨rfl, rfl⟩ | ⟨rfl, rfl⟩ <;> exact ⟨by decide, rfl⟩
def saSt (L : List SideM) (ad : Nat → Nat → Option Addr × Nat) (i : Nat) : St :=
  ⟨[some (XV.sv (.ptr 0 0 0 0)), some (XV.sv (.ptr 1 0 0 0)), none, none, none, some (XV.int .i64 i)] ++ List.replicate 64 none,
   [(0, .abs (pReg L)), (1, .cells rrS [.slc 2 42 0 L.length]), (2, .vec rrE 42 L.length fun i => fillA 0 (regF L i) (ad i)), (3, .abs (PartsO L.length (regF L) ad))], 4⟩
set_option maxHeartbeats 4000000 in
theorem same13_can (L : List SideM) (h0 : 0 < L.length) (hl : L.length ≤ 1000000) (hL : ∀ i, i < L.length → (L.getD i default).Sized) (hP : ∀ i, i < L.length → Plain (L.getD i default)) : Does Tryz.prog 40 [(.abs (pReg L), .abs (pReg L)), (.abs (rReg L), .abs (rReg L))] [] [] (XV.bool true) none := by
  refine Does.of Tryz.T_ok Tryz.func40 rfl _ _ _ _ _ rfl rfl rfl 0 (fun C hC => ?_)
  (replace hC : C.n0 = 2 := hC; change Tri _ _ _ ⟨_, _, 2⟩ _)
  refine Reg.opens rrS rrE L 1 h0 rfl (Nat.le_of_ble_eq_true rfl) (fun ad => ?_)
  (refine Tri.cut 2 Tryz.mixed Tryz.T_ok ?_; refine xZ ?_)
  (apply wP; exact (call_op rfl (entersB_of Tryz.func35 (by kernel_rfl)) rfl ((regLen_can L).at [] rfl rfl rfl trivial trivial)); refine xZ ?_)
  refine wFd (by simp) ?_
  (refine xG ?_)
  (apply wP; exact (call_op rfl (entersB_of Tryz.func76 (by kernel_rfl)) rfl ((rtotal_can L h0 hl).at [] rfl rfl rfl trivial trivial)); refine xZ ?_)
  (apply wP; exact (call_op rfl (entersB_of Tryz.func77 (by kernel_rfl)) rfl (stotal_open L ad hl (i2 := 4) rfl rfl rfl rfl rfl)); refine xZ ?_)
  refine wFd (by simp) ?_
  (refine xG ?_)
  refine wD <| cutG <| Tri.seq ?_
  (refine Tri.cut 1 Tryz.mixed Tryz.T_ok ?_; refine xZ ?_)
  refine wD <| cutG <| Tri.block ?_
  refine Tri.loop (α := { i : Nat // i ≤ L.length }) (fun i => saSt L ad i.1) (fun i => L.length - i.1) ⟨0, Nat.zero_le _⟩ ?_ ?_
  · unfold saSt
    ((try dsimp only); refine Ent.renC [0, 1, 3, 4] hC ?_ ?_ <;> repeat' (first | exact trivial | exact rfl | exact ⟨_, rfl, rfl, rfl, Nat.le_refl _, fun _ _ => rfl⟩ | exact ⟨_, rfl, rfl, rfl, fun _ _ => rfl⟩ | exact ⟨_, rfl, rfl, rfl⟩ | exact ⟨_, rfl, rfl⟩ | refine ⟨_, rfl, rfl, rfl, by omega, fun k hk => ?_⟩ | refine ⟨?_, ?_⟩ | fail))
  rintro ⟨i, hi⟩
  dsimp only
  unfold saSt
  (refine Tri.cut 1 Tryz.mixed Tryz.T_ok ?_; refine xZ ?_)
  refine wC (fun h1 => ?_) (fun h1 => ?_)
  · (refine xG ?_)
    have h1' : i < L.length := xW
    have hw : IntKind.i64.wrap ((i : Int) + 1) = ((i + 1 : Nat) : Int) := xW
    have k3 := side_in L i h1' (hL i h1')
    have k4 := sameSide_can (L.getD i default) (hL i h1') (hP i h1')
    refine wD <| cutG <| Tri.seq <| Tri.block ?_
    (refine Tri.cut 1 Tryz.mixed Tryz.T_ok ?_; refine xZ ?_)
    (apply wP; exact (call_op rfl (entersB_of Tryz.func22 (by kernel_rfl)) rfl (k3.at1 [] rfl rfl rfl ⟨lend_plain rfl, trivial⟩ trivial)); refine xZ ?_)
    refine wD <| cutG <| Tri.ent (Ent.unpack (c := 13) (l := sideRows (L.getD i default)) rfl) <| Tri.of Tryz.mixed Tryz.T_ok ?_
    (refine xB ?_)
    (repeat (refine wN ?_ ?_; exact xW; refine xG ?_))
    simp only [Nat.zero_add, Int.toNat_natCast]
    (apply wP; exact (call_op rfl (entersB_of Tryz.func78 (by kernel_rfl)) rfl (k4.at [20, 21, 22, 23, 3] ⟨lend_side (x := L.getD i default) (lend_vecN (lo := 0) rfl rfl rfl (Nat.le_of_eq (Nat.zero_add _)) (fun i _ => by rw [Nat.zero_add])) (lend_vecN (lo := 0) rfl rfl rfl (Nat.le_of_eq (Nat.zero_add _)) (fun i _ => by rw [Nat.zero_add])) (lend_vecN (lo := 0) rfl rfl rfl (Nat.le_of_eq (Nat.zero_add _)) (fun i _ => by rw [Nat.zero_add])) (lend_vecN (lo := 0) rfl rfl rfl (Nat.le_of_eq (Nat.zero_add _)) (fun i _ => by rw [Nat.zero_add])), lend_rec (q := 3) (L := L) (i := i) (ad := ad) rfl rfl h1', trivial⟩ trivial)); refine xZ ?_)
    refine wD <| blockN <| cutG <| Tri.of Tryz.mixed Tryz.T_ok ?_
    (refine xB ?_)
    refine wD <| loopN ⟨⟨i + 1, h1'⟩, by dsimp only; omega, ?_⟩
    rw [hw]
    ((try dsimp only); refine Ent.renC [0, 1, 2, 3] hC ?_ ?_ <;> repeat' (first | exact trivial | exact rfl | exact ⟨_, rfl, rfl, rfl, Nat.le_refl _, fun _ _ => rfl⟩ | exact ⟨_, rfl, rfl, rfl, fun _ _ => rfl⟩ | exact ⟨_, rfl, rfl, rfl⟩ | exact ⟨_, rfl, rfl⟩ | refine ⟨_, rfl, rfl, rfl, by omega, fun k hk => ?_⟩ | refine ⟨?_, ?_⟩ | fail))
  · (refine xG ?_)
    have ho := side_out L (L.length : Int) (by rw [inB, decide_eq_false (Int.lt_irrefl _), Bool.and_false])
    refine wD <| cutE <| loopX <| blockX <| cutG <| Tri.of Tryz.mixed Tryz.T_ok ?_
    (refine xB ?_)
    (apply wP; exact (call_op rfl (entersB_of Tryz.func22 (by kernel_rfl)) rfl (ho.at1 [] rfl rfl rfl ⟨lend_plain rfl, trivial⟩ trivial)); refine xZ ?_)
    exact wD (Sx.Ends.shutN2 (.inr rfl) (Reg.shutsO rrS rrE L L 1 (i1 := 2) (q := 3) (ad := ad) h0 rfl rfl rfl rfl rfl rfl (fun _ _ => rfl) regF_raw) rfl rfl rfl rfl)
end Go.Proofs.YtnpkdoggfnlapaaGreatDoor
namespace Go.Proofs.YtnpkdoggfnlapaaGreatDoor
set_option maxRecDepth 100000
open Go.Sx
def SameOK : Prop := ∀ (S : USet) (R : RC), Twin S R → S.coins.length ≤ 1000 → ∀ {M : Mem} {c0 c1 d : Nat}, M.get c0 = some (.abs (usetP S)) → M.get c1 = some (.abs (rcP R)) → (Nat.beq c0 c1 || Nat.beq d c0 || Nat.beq d c1) = false →
    CallSpec Tryz.prog 41 [.one (.ptr c0 0 0 0), .one (.ptr c1 0 0 0)] M d { v := XV.bool true, upd := [(c0, .abs (usetP S)), (c1, .abs (rcP R))], wr := [c0, c1] } [c0, c1]
theorem start_any (a : AcsM) {m : Int} (c : Bool) (h1 : 0 ≤ m) (h2 : m ≤ 1000000000) : StartX a m c (sideC a m c) := by
  by_cases h : 1 ≤ m
  · exact start_is a c h h2
  · obtain rfl : m = 0 := by omega
    exact ⟨rfl, rfl, rfl, rfl, rfl, rfl, rfl⟩
theorem keep_any {a : AcsM} {m : Int} {c : Bool} {x : SideM} (h : StartX a m c x) (h1 : 0 ≤ m) : KeepI m x USet.empty :=
  ⟨by rw [h.bal, h.clm]; omega, by rw [h.bal]; omega, by rw [h.clm]; exact Int.le_refl 0, by rw [h.clm]; rfl, by rw [h.used]; rfl, by rw [h.used]; exact List.Pairwise.nil, List.nodup_nil⟩
theorem Kept.plain {x : SideM} {k : Nat} (h : Kept x k) : Plain x := ⟨by rw [h.cert]; rfl, by rw [h.cert]; rfl⟩
structure TakeLI (m : Int) (l : List UInt16) where
  i : Nat
  x : SideM
  S : USet
  R : RC
  le : i ≤ l.length
  keep : KeepI m x S
  twin : Twin S R
  kept : Kept x i
  steps : S.steps.length ≤ i
def ctMem (a : AcsM) (l : List UInt16) (x : SideM) (S : USet) (R : RC) : Mem :=
  [(0, .ro 1 a.pl.length (rowW a.pl)), (1, .ro 1 a.am.length (rowW a.am)), (3, .ro 1 l.length (rowW l)), (4, .ext stepsP), (5, .cells 24 [.slc 0 1 0 a.pl.length, .slc 1 1 0 a.am.length]), (6, .abs (pReg [x])), (7, .abs (rReg [x])), (8, .abs (usetP S)), (9, .abs (rcP R))]
def ctSt (a : AcsM) (l : List UInt16) (x : SideM) (S : USet) (R : RC) (i : Option XV) : St :=
  ⟨[none, none, some (XV.sv (.slc 3 1 0 l.length)), some (XV.sv (.ptr 5 0 0 0)), none, none, none, some (XV.sv (.ptr 6 0 0 0)), some (XV.sv (.ptr 7 0 0 0)), some (XV.sv (.ptr 8 0 0 0)), some (XV.sv (.ptr 9 0 0 0)), i] ++ List.replicate 98 none, ctMem a l x S R, 10⟩
def ctSt1 (a : AcsM) (l : List UInt16) (x : SideM) (S : USet) (R : RC) (i : Nat) (c : ClaimM) : St :=
  ⟨[none, none, some (XV.sv (.slc 3 1 0 l.length)), some (XV.sv (.ptr 5 0 0 0)), none, none, none, some (XV.sv (.ptr 6 0 0 0)), some (XV.sv (.ptr 7 0 0 0)), some (XV.sv (.ptr 8 0 0 0)), some (XV.sv (.ptr 9 0 0 0)), some (XV.int .i64 i), some (XV.sv (.ptr 10 0 0 0))] ++ List.replicate 97 none, ctMem a l x S R ++ [(10, .cells 48 (claimTxC c))], 11⟩
def sideOr (w : UInt16) (c : ClaimM) : ClaimM := if w.toNat / 4096 = 15 then sidedC c 3 else c
set_option maxHeartbeats 8000000 in
theorem ceaseTakes_walk (hsame : SameOK) (a : AcsM) (n0 n1 n2 : UInt16) (l : List UInt16) (hl1 : a.pl.length ≤ maxLen) (hl2 : a.am.length ≤ maxLen) (hl : l.length ≤ maxLen) : Reads Tryz.prog 12 [.box a.ac, .plain (.agg [.raw (u16 n0), .raw (u16 n1), .raw (u16 n2)]), .row 1 l.length (rowW l)] [stepsP] (XV.bool true) := by
  refine Reads.of Tryz.T_ok Tryz.func12 rfl _ _ _ rfl rfl (fun C hC => ?_)
  (replace hC : C.n0 = 5 := hC; change Tri _ _ _ ⟨_, _, 5⟩ _)
  (refine Tri.cut 3 Tryz.mixed Tryz.T_ok ?_; refine xZ ?_)
  (apply wP; exact (call_op rfl (entersB_of Tryz.func13 (by kernel_rfl)) rfl (awake16.at [4] trivial ⟨lend_ext (c := 4) rfl rfl, trivial⟩)); refine xZ ?_)
  (apply wP; exact (call_op rfl (entersB_of Tryz.func14 (by kernel_rfl)) rfl ((fair_can a hl1 hl2).at [0, 1] ⟨lend_acs (lend_ro0 rfl rfl) (lend_ro0 rfl rfl), trivial⟩ trivial)); refine xZ ?_)
  refine wC (fun h1 => ?_) (fun h1 => ?_)
  · (refine xG ?_)
    exact wD <| cutR <| Ends.plain (.inr rfl) rfl rfl
  have hf : Fair a := fair_of (by simpa using h1)
  have f1 := hf.few
  (refine xG ?_)
  refine wC (fun h2 => ?_) (fun h2 => ?_)
  · (refine xG ?_)
    exact wD <| cutR <| Ends.plain (.inr rfl) rfl rfl
  have hn : l.length ≤ 12 := by simp only [decide_eq_false_iff_not] at h2; omega
  (refine xG ?_)
  refine wD <| cutG <| ?_
  have hmo := n0.toNat_lt
  have hmon : IntKind.i64.wrap (n0.toNat : Int) = (n0.toNat : Int) := wrap_id (by omega)
  (refine Tri.cut 2 Tryz.mixed Tryz.T_ok ?_; refine xZ ?_)
  obtain ⟨cz, hcz⟩ : ∃ cz : Bool, decide (0 < Int.tmod (n1.toNat : Int) 8) = cz := ⟨_, rfl⟩
  simp only [hmon, hcz]
  (apply wP; exact (call_op rfl (entersB_of Tryz.func18 (by kernel_rfl)) rfl ((fill16_can a hf (n0.toNat : Int) cz).at [0, 1] ⟨lend_acs (lend_ro0 rfl rfl) (lend_ro0 rfl rfl), lend_plain rfl, lend_plain rfl, trivial⟩ trivial)); refine xZ ?_)
  (apply wP; exact (call_op rfl (entersB_of Tryz.func19 (by kernel_rfl)) rfl (new_spec)); refine xZ ?_)
  have hst := start_any a (m := (n0.toNat : Int)) cz (Int.natCast_nonneg _) (by omega)
  obtain ⟨m, hm⟩ : ∃ m : Int, (n0.toNat : Int) = m := ⟨_, rfl⟩
  have hm1 : 0 ≤ m := by omega
  have hm2 : m ≤ 65535 := by omega
  rw [hm] at hst ⊢
  obtain ⟨z, hz⟩ : ∃ z, sideC a m cz = z := ⟨_, rfl⟩
  rw [hz] at hst ⊢
  refine wD <| cutG <| Tri.ent (Ent.nilc (c := 34) (e := 78) (cs := [.raw (.slice none 0 0), .raw (.slice none 0 0)]) (j := 0) rfl rfl 65 9) <|
    Tri.ent (Ent.nilc (c := 34) (e := 78) (cs := [.slc 37 9 0 0, .raw (.slice none 0 0)]) (j := 1) rfl rfl 162 11) <|
    Tri.ent (Ent.shut3 (i0 := 34) (i1 := 37) (i2 := 38) (M := RC.empty.mem) (inv := True) rfl trivial rfl rfl rfl rfl rfl rfl rfl rfl ⟨rfl, rfl⟩ ⟨rfl, rfl, Nat.le_refl _, fun i hi => absurd hi (Nat.not_lt_zero i)⟩ ⟨rfl, rfl, Nat.le_refl _, fun i hi => absurd hi (Nat.not_lt_zero i)⟩) <|
    Tri.ent (Ent.unpack (c := 26) (l := fill14Pack [z]) rfl) <| Tri.ent (S' := ctSt a l z USet.empty RC.empty none) ?_ ?_
  · unfold ctSt ctMem
    ((try dsimp only); refine Ent.renC [0, 1, 2, 3, 4, 5, 39, 40, 32, 34] hC ?_ ?_ <;> repeat' (first | exact trivial | exact rfl | exact ⟨_, rfl, rfl, rfl, Nat.le_refl _, fun _ _ => rfl⟩ | exact ⟨_, rfl, rfl, rfl, fun _ _ => rfl⟩ | exact ⟨_, rfl, rfl, rfl⟩ | exact ⟨_, rfl, rfl⟩ | refine ⟨_, rfl, rfl, rfl, by omega, fun k hk => ?_⟩ | refine ⟨?_, ?_⟩ | fail))
  unfold ctSt ctMem
  (refine Tri.cut 1 Tryz.mixed Tryz.T_ok ?_; refine xZ ?_)
  refine wD <| cutG <| Tri.seq ?_
  (refine Tri.cut 1 Tryz.mixed Tryz.T_ok ?_; refine xZ ?_)
  refine wD <| cutG <| Tri.block ?_
  refine Tri.loop (α := TakeLI m l) (fun p => ctSt a l p.x p.S p.R (some (XV.int .i64 p.i))) (fun p => l.length - p.i) ⟨0, z, USet.empty, RC.empty, Nat.zero_le _, keep_any hst hm1, Twin.empty, hst.kept, Nat.le_refl _⟩ ?_ ?_
  · unfold ctSt ctMem
    ((try dsimp only); refine Ent.renC [0, 1, 2, 3, 4, 5, 6, 7, 8, 9] hC ?_ ?_ <;> repeat' (first | exact trivial | exact rfl | exact ⟨_, rfl, rfl, rfl, Nat.le_refl _, fun _ _ => rfl⟩ | exact ⟨_, rfl, rfl, rfl, fun _ _ => rfl⟩ | exact ⟨_, rfl, rfl, rfl⟩ | exact ⟨_, rfl, rfl⟩ | refine ⟨_, rfl, rfl, rfl, by omega, fun k hk => ?_⟩ | refine ⟨?_, ?_⟩ | fail))
  rintro ⟨i, x, S, R, hi, hk, htw, hkp, hs⟩
  dsimp only
  unfold ctSt ctMem
  (refine Tri.cut 1 Tryz.mixed Tryz.T_ok ?_; refine xZ ?_)
  refine wC (fun h3 => ?_) (fun h3 => ?_)
  · (refine xG ?_)
    have h3' : i < l.length := xW
    have hw : IntKind.i64.wrap ((i : Int) + 1) = ((i + 1 : Nat) : Int) := xW
    have hiI : (0 : Int) ≤ (i : Int) ∧ ((i : Nat) : Int) < ((l.length : Nat) : Int) := ⟨Int.natCast_nonneg _, Int.ofNat_lt.2 h3'⟩
    obtain ⟨w, hww⟩ : ∃ w, l.getD i 0 = w := ⟨_, rfl⟩
    obtain ⟨c, hc⟩ : ∃ c, bendC (bendB w 16) (claimN a (w.toNat % 13)) = c := ⟨_, rfl⟩
    have kc := claim16_can a hf (w.toNat % 13) (by omega) (bendB w 16)
    rw [hc] at kc
    have e13 : Int.tmod (IntKind.i64.wrap ((w.toNat : Nat) : Int)) 13 = ((w.toNat % 13 : Nat) : Int) := tm_nat (n := 13) w.toNat_lt
    have e8 : Int.tmod (IntKind.u8.wrap (shrI .u16 ((w.toNat : Nat) : Int) 8)) 16 = ((bendB w 16).toNat : Int) := bend_is w 16 (by decide) (by decide) (by decide)
    refine wD <| cutG <| Tri.seq <| Tri.block ?_
    (refine Tri.cut 1 Tryz.mixed Tryz.T_ok ?_; refine xZ ?_)
    (repeat (refine wN ?_ ?_; exact xW; refine xG ?_))
    simp only [Nat.zero_add, Int.toNat_natCast, hww, e13, e8]
    (apply wP; exact (call_op rfl (entersB_of Tryz.func17 (by kernel_rfl)) rfl (kc.at [0, 1] ⟨lend_acs (lend_ro0 rfl rfl) (lend_ro0 rfl rfl), lend_plain rfl, lend_plain rfl, trivial⟩ trivial)); refine xZ ?_)
    refine wD <| cutG <| Tri.ent (S' := ctSt1 a l x S R i c) ?_ ?_
    · unfold ctSt1 ctMem
      ((try dsimp only); refine Ent.renC [0, 1, 2, 3, 4, 5, 6, 7, 8, 9, 29] hC ?_ ?_ <;> repeat' (first | exact trivial | exact rfl | exact ⟨_, rfl, rfl, rfl, Nat.le_refl _, fun _ _ => rfl⟩ | exact ⟨_, rfl, rfl, rfl, fun _ _ => rfl⟩ | exact ⟨_, rfl, rfl, rfl⟩ | exact ⟨_, rfl, rfl⟩ | refine ⟨_, rfl, rfl, rfl, by omega, fun k hk => ?_⟩ | refine ⟨?_, ?_⟩ | fail))
    have e12 : shrI .u16 ((w.toNat : Nat) : Int) 12 = ((w.toNat / 4096 : Nat) : Int) := shr_nat .u16 w.toNat 12 (by decide)
    have htn : (0 + ((i : Nat) : Int).toNat) = i := by rw [Nat.zero_add, Int.toNat_natCast]
    unfold ctSt1 ctMem
    refine Tri.merge (ctSt1 a l x S R i (sideOr w c)) (Tri.of Tryz.mixed Tryz.T_ok ?_) ?_
    · (refine xB ?_)
      refine wN hiI ?_
      (refine xG ?_)
      simp only [htn]
      refine wN h3' ?_
      (refine xG ?_)
      simp only [hww, e12]
      refine wC (fun h4 => ?_) (fun h4 => ?_)
      · have h4' : w.toNat / 4096 = 15 := by have := beq_iff_eq.1 h4; omega
        have hso : sideOr w c = sidedC c 3 := if_pos h4'
        (refine xG ?_)
        refine wD ⟨rfl, ?_⟩
        rw [hso]
        unfold ctSt1 ctMem
        ((try dsimp only); refine Ent.renC [0, 1, 2, 3, 4, 5, 6, 7, 8, 9, 10] hC ?_ ?_ <;> repeat' (first | exact trivial | exact rfl | exact ⟨_, rfl, rfl, rfl, Nat.le_refl _, fun _ _ => rfl⟩ | exact ⟨_, rfl, rfl, rfl, fun _ _ => rfl⟩ | exact ⟨_, rfl, rfl, rfl⟩ | exact ⟨_, rfl, rfl⟩ | refine ⟨_, rfl, rfl, rfl, by omega, fun k hk => ?_⟩ | refine ⟨?_, ?_⟩ | fail))
      · have h4' : ¬ w.toNat / 4096 = 15 := by have := beq_eq_false_iff_ne.1 h4; omega
        have hso : sideOr w c = c := if_neg h4'
        (refine xG ?_)
        refine wD ⟨rfl, ?_⟩
        rw [hso]
        unfold ctSt1 ctMem
        ((try dsimp only); refine Ent.renC [0, 1, 2, 3, 4, 5, 6, 7, 8, 9, 10] hC ?_ ?_ <;> repeat' (first | exact trivial | exact rfl | exact ⟨_, rfl, rfl, rfl, Nat.le_refl _, fun _ _ => rfl⟩ | exact ⟨_, rfl, rfl, rfl, fun _ _ => rfl⟩ | exact ⟨_, rfl, rfl, rfl⟩ | exact ⟨_, rfl, rfl⟩ | refine ⟨_, rfl, rfl, rfl, by omega, fun k hk => ?_⟩ | refine ⟨?_, ?_⟩ | fail))
    clear hc kc
    obtain ⟨y, hy⟩ : ∃ y, sideOr w c = y := ⟨_, rfl⟩
    rw [hy]
    obtain ⟨x', S', e, t1, t2, t3, t4, t5, t6⟩ := hk.take (by omega) y (Int64.ofNat i)
    obtain ⟨r1, r2, r3⟩ := twin_take htw [x] y (Int64.ofNat i)
    have hlen := htw.lens
    have hul := hkp.used
    have hrl : R.P.length ≤ i := by rw [hlen.1, ← hk.len]; exact hul
    have hk' : Kept x' (i + 1) := ⟨t5.trans hkp.par, t6.trans hkp.cert, by omega⟩
    have one : ∀ z : SideM, z.Sized → ∀ j, j < [z].length → ([z].getD j default).Sized := fun z hz j hj => by
      obtain rfl : j = 0 := by have : j < 1 := hj; omega
      exact hz
    have oneP : ∀ z : SideM, Plain z → ∀ j, j < [z].length → Plain ([z].getD j default) := fun z hz j hj => by
      obtain rfl : j = 0 := by have : j < 1 := hj; omega
      exact hz
    have kch := check_can [x] y (one x (hkp.sized (by omega))) (show 1 ≤ 1000 by decide)
    have krch := rcheck_can [x] y (one x (hkp.sized (by omega))) (show 1 ≤ 1000 by decide)
    have k1 := take1_can x S y (Int64.ofNat i) (hkp.sized (by omega)) (by omega) hk.up (by omega) t1
    have k2 := rtake1_can x R y (Int64.ofNat i) (hkp.sized (by omega)) hlen.2 (by omega) (by omega)
    rw [t1] at r1 r2 r3
    dsimp only at r1 r2 r3
    rw [r1, r2, ← ofNat_toInt (by omega)] at k2
    rw [← ofNat_toInt (by omega)] at k1
    obtain ⟨R', hR'⟩ : ∃ R', (rtakeE [x] R y (Int64.ofNat i)).1.2 = R' := ⟨_, rfl⟩
    rw [hR'] at k2 r3
    have ks13 := same13_can [x'] Nat.one_pos (show 1 ≤ 1000000 by decide) (one x' (hk'.sized (by omega))) (oneP x' hk'.plain)
    have hcl : S'.coins.length ≤ 1000 := by rw [← t2.len]; have := hk'.used; omega
    have ks11 := @hsame S' R' r3 hcl
    unfold ctSt1 ctMem
    refine Tri.of Tryz.mixed Tryz.T_ok ?_
    (refine xB ?_)
    (apply wP; exact (call_op rfl (entersB_of Tryz.func42 (by kernel_rfl)) rfl (kch.at [4] rfl rfl rfl ⟨lend_plain rfl, trivial⟩ ⟨lend_ext (c := 4) rfl rfl, trivial⟩)); refine xZ ?_)
    (apply wP; exact (call_op rfl (entersB_of Tryz.func43 (by kernel_rfl)) rfl (krch.at [] rfl rfl rfl ⟨lend_plain rfl, trivial⟩ trivial)); refine xZ ?_)
    refine wFd (by simp) ?_
    (refine xG ?_)
    (apply wP; exact (call_op rfl (entersB_of Tryz.func20 (by kernel_rfl)) rfl (k1.at2 [4] rfl rfl rfl rfl ⟨lend_tx (t := claimTx y) (lend_nil _ _) (lend_nil _ _) (lend_nil _ _) (lend_nil _ _) (lend_nil _ _) (lend_nil _ _), lend_plain rfl, trivial⟩ ⟨lend_ext (c := 4) rfl rfl, trivial⟩)); refine xZ ?_)
    (apply wP; exact (call_op rfl (entersB_of Tryz.func24 (by kernel_rfl)) rfl (k2.at2 [] rfl rfl rfl rfl ⟨lend_tx (t := claimTx y) (lend_nil _ _) (lend_nil _ _) (lend_nil _ _) (lend_nil _ _) (lend_nil _ _) (lend_nil _ _), lend_plain rfl, trivial⟩ trivial)); refine xZ ?_)
    refine wFd (by simp) ?_
    (refine xG ?_)
    (apply wP; exact (call_op rfl (entersB_of Tryz.func40 (by kernel_rfl)) rfl (ks13.at2 [] rfl rfl rfl rfl trivial trivial)); refine xZ ?_)
    (apply wP; exact (call_op rfl (entersB_of Tryz.func41 (by kernel_rfl)) rfl (ks11 rfl rfl rfl)); refine xZ ?_)
    refine wD <| blockN <| cutG <| Tri.of Tryz.mixed Tryz.T_ok ?_
    (refine xB ?_)
    refine wD <| loopN ⟨⟨i + 1, x', S', R', h3', t2, r3, hk', by omega⟩, by dsimp only; omega, ?_⟩
    rw [hw]
    ((try dsimp only); refine Ent.renC [0, 1, 2, 3, 4, 5, 6, 7, 8, 9] hC ?_ ?_ <;> repeat' (first | exact trivial | exact rfl | exact ⟨_, rfl, rfl, rfl, Nat.le_refl _, fun _ _ => rfl⟩ | exact ⟨_, rfl, rfl, rfl, fun _ _ => rfl⟩ | exact ⟨_, rfl, rfl, rfl⟩ | exact ⟨_, rfl, rfl⟩ | refine ⟨_, rfl, rfl, rfl, by omega, fun k hk => ?_⟩ | refine ⟨?_, ?_⟩ | fail))
  · (refine xG ?_)
    refine wD <| cutE <| loopX <| blockX <| cutG <| Tri.of Tryz.mixed Tryz.T_ok ?_
    (refine xB ?_)
    exact wD (Ends.plain (.inr rfl) rfl rfl)
end Go.Proofs.YtnpkdoggfnlapaaGreatDoor
namespace Go.Proofs.YtnpkdoggfnlapaaGreatDoor
set_option maxRecDepth 100000
open Go.Sx Go.RowKit Go.ChangeShapes Go.WideShapes Go.ChangeAt
theorem own : ownKnob Tryz.prog.godebug = none := by kernel_rfl
theorem fits_u16 {v : Value} (h : (Kd.int .u16).fits v) : ∃ y : UInt16, v = u16 y := by
  obtain ⟨n, rfl, hw⟩ := h
  have e1 : IntKind.u16.min = 0 := rfl
  have e2 : IntKind.u16.max = 65535 := rfl
  simp [Lit.wf, e1, e2] at hw
  refine ⟨UInt16.ofNat n.toNat, ?_⟩
  simp only [u16, Value.int.injEq, true_and]
  have : (UInt16.ofNat n.toNat).toNat = n.toNat := UInt16.toNat_ofNat_of_lt' (by simp [UInt16.size]; omega)
  omega
theorem word_dec (cs : List Value) (h : Fits [.int .u16] cs) : ∃ x : UInt16, cs = [u16 x] := by
  obtain ⟨_, _, rfl, a0, rfl⟩ := h
  obtain ⟨b0, rfl⟩ := fits_u16 a0
  exact ⟨b0, rfl⟩
section
variable {H : Type} {enc : TypeId × Value → H} {W : World}
theorem open_words {v : Value} {d : DataW H} {p : List MemPlace} (h : DataW.Trod enc Tryz.prog W 0 (fun _ => true) true 22 v d p) (hv : Value.okWide Tryz.prog W .any 0 22 v) : ∃ l : List UInt16, l.length ≤ maxLen ∧ RowIn W v 1 l.length (rowW l) :=
  Go.Sx.open_row Tryz.T_ok (t := 22) (e := 25) rfl rfl rfl (f := 8) (ks := [.int .u16]) rfl h hv (fun x => [u16 x]) word_dec 0
theorem acs_types : Tryz.prog.cellTypes Tryz.prog.depth 24 = some [22, 22] := by kernel_rfl
set_option maxRecDepth 100000 in
theorem open_acs {v : Value} {d : DataW H} {p : List MemPlace} (h : DataW.Trod enc Tryz.prog W 0 (fun _ => true) true 24 v d p) (hv : Value.okWide Tryz.prog W .any 0 24 v) :
    ∃ a : AcsM, a.pl.length ≤ maxLen ∧ a.am.length ≤ maxLen ∧ Sx.Came W v (.box a.ac) := by
  have hv' := hv
  obtain ⟨v0, v1, y0, y1, n, rfl, _, _, h0, h1⟩ := Joins.open_agg2 Tryz.underlying24 (by kernel_rfl) (by kernel_rfl) hv h
  obtain ⟨l0, b0, k0⟩ := open_rowC Tryz.T_ok (t := 22) (e := 25) rfl rfl rfl (f := 8) (ks := [.int .u16]) rfl h0 (ok_cell Tryz.underlying24 acs_types hv' (i := 0) rfl rfl) (fun x => [u16 x]) word_dec 0
  obtain ⟨l1, b1, k1⟩ := open_rowC Tryz.T_ok (t := 22) (e := 25) rfl rfl rfl (f := 8) (ks := [.int .u16]) rfl h1 (ok_cell Tryz.underlying24 acs_types hv' (i := 1) rfl rfl) (fun x => [u16 x]) word_dec 0
  exact ⟨⟨l0, l1⟩, b0, b1, came_box ⟨k0, k1, trivial⟩⟩
end
theorem cell_lt {w : World} {a : Addr} {v : Value} (h : w.cell? a = some v) : a.block < w.heap.size := by
  by_cases hb : a.block < w.heap.size
  · exact hb
  · have e : w.heap[a.block]? = none := Array.getElem?_eq_none (by omega)
    simp [World.cell?, e] at h
theorem stepsG : Tryz.prog.globalNamed "drawbridge/hash.steps" = some 0 := by kernel_rfl
theorem stepsT : (Tryz.prog.globals[0]?).map (·.type) = some 227 := by kernel_rfl
set_option maxRecDepth 100000 in
theorem steps_came {W : World} (h : laidMetH Tryz.prog [("drawbridge/hash.steps", Rows.laid_drawbridge_hash_steps)] W) : CameX W [stepsP] := by
  rw [MakeChecks.laidMetH_plain _ _ _ (by kernel_rfl)] at h
  have hT : Lib.TabIs Tryz.prog W "drawbridge/hash.steps" .u32 stepL := Lib.tabIs_of_head (zs := stepL) (k := .u32) stepsG stepsT Tryz.underlying227 Tryz.underlying225 (by kernel_rfl) (by kernel_rfl) h
  refine ⟨came_ext ?_ fun i hi => ⟨rfl, fun j v hj => ?_⟩, trivial⟩
  · exact cell_lt (hT.cell stepsG 0 (by decide))
  · have hc := hT.cell stepsG i (by show i < 64; exact hi)
    cases j with
    | zero =>
      have hv : v = .int .u32 (stepL.getD i 0) := by simpa [wordsF, stepW, u32] using hj.symm
      rw [hv]
      show W.cell? ⟨0, i * 1 + 0, none⟩ = _
      rw [Nat.mul_one, Nat.add_zero]
      exact hc
    | succ j => simp [wordsF] at hj
theorem door_met (os : Os) (args : Array Value) : laidMetH Tryz.prog [("drawbridge/hash.steps", Rows.laid_drawbridge_hash_steps)] ((World.doorLaid Tryz.prog 14 os).forCall (fun _ _ => 0) ⟨#[], args, []⟩).memory :=
  laidMetH_of_parts3 (fuel := 8) (laidMet_of_run' 8 (by kernel_rfl) (by kernel_rfl)) (by kernel_rfl) (by kernel_rfl)
end Go.Proofs.YtnpkdoggfnlapaaGreatDoor
namespace Go.Proofs.YtnpkdoggfnlapaaGreatDoor
set_option maxRecDepth 100000
open Go.Sx Go.RowKit Go.ChangeShapes Go.WideShapes Go.ChangeAt
theorem open_tri {H : Type} {enc : TypeId × Value → H} {W : World} {v : Value} {d : DataW H} {p : List MemPlace} (h : DataW.Trod enc Tryz.prog W 0 (fun _ => true) true 115 v d p) (hv : Value.okWide Tryz.prog W .any 0 115 v) : ∃ (x y z : UInt16) (arr : Array Value), v = .agg arr ∧ arr.toList = [u16 x, u16 y, u16 z] := by
  simp only [Value.okWide, Tryz.underlying115] at hv
  obtain ⟨arr, rfl, _, _⟩ := hv
  obtain ⟨fuel, hf⟩ := h
  obtain ⟨_, _, e0, a0, _, _, e1, a1, _, _, e2, a2, e3⟩ := trod_fits Tryz.T_ok 8 115 [.int .u16, .int .u16, .int .u16] rfl fuel _ _ hf
  obtain ⟨x, hx⟩ := fits_u16 a0
  obtain ⟨y, hy⟩ := fits_u16 a1
  obtain ⟨z, hz⟩ := fits_u16 a2
  refine ⟨x, y, z, arr, rfl, ?_⟩
  have e : (Value.agg arr).cells.toList = arr.toList := rfl
  rw [← e, e0, e1, e2, e3, hx, hy, hz]
theorem came_tri {W : World} {arr : Array Value} {x y z : UInt16} (h : arr.toList = [u16 x, u16 y, u16 z]) : Sx.Came W (.agg arr) (.plain (.agg [.raw (u16 x), .raw (u16 y), .raw (u16 z)])) :=
  ⟨[default], rfl, fun i β0 _ => ⟨⟨arr, rfl, _, _, h, rfl, _, _, rfl, rfl, _, _, rfl, rfl, rfl⟩, fun c ch h => by cases h⟩⟩
end Go.Proofs.YtnpkdoggfnlapaaGreatDoor
