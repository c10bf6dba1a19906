/- Parts Ho Ta Tb Tn Vt Tc La Ya. -/
import Derived.Test.YtnpkdoggfnlapaaGreatDoorG16
import Derived.Test.YtnpkdoggfnlapaaGreatDoorG11
import Derived.Test.YtnpkdoggfnlapaaGreatDoorG12
import Derived.Shelf.Lays2
import Derived.Ground.Names2Prog
import Derived.Test.YtnpkdoggfnlapaaGreatDoorProg
set_option linter.unusedSimpArgs false
set_option linter.unusedVariables false
namespace Go.Proofs.YtnpkdoggfnlapaaGreatDoor
set_option maxRecDepth 100000
open Go.Sx
structure SigM where
  idx : Int
  opn : Nat → H8
  shut : Nat → H8
  path : Nat → H8
def SigM.cells (s : SigM) : List Value := .int .i64 s.idx :: (tabF (hashF s.opn) 0 16 ++ tabF (hashF s.shut) 0 16 ++ tabF (hashF s.path) 0 3)
def SigM.x (s : SigM) : CV := .agg (s.cells.map .raw)
theorem allB_congr {mk mk' : Nat → Nat → H8} (h : ∀ i, i < 16 → ∀ b, b < 2 → mk i b = mk' i b) : ∀ n, n ≤ 16 → allB mk n = allB mk' n
  | 0, _ => rfl
  | n + 1, hn => by simp only [allB]; rw [allB_congr h n (by omega), h n (by omega) 0 (by decide), h n (by omega) 1 (by decide)]
theorem pubH_congr {mk mk' : Nat → Nat → H8} (h : ∀ i, i < 16 → ∀ b, b < 2 → mk i b = mk' i b) : pubH mk = pubH mk' := by
  unfold pubH; rw [allB_congr h 16 (Nat.le_refl _)]
def pubS (seed : H8) (k : Nat) : H8 := pubH fun i b => markH (secretH seed (k : Int) (i : Int) (b : Int))
theorem pub_signed (seed : H8) (k : Nat) (m : H8) : pubH (markOf m (openS seed (k : Int) m) (shutS seed (k : Int) m)) = pubS seed k := by
  refine pubH_congr fun i _ b hb => ?_
  unfold markOf openS shutS
  have h2 := bitN_cases m i
  split
  · rename_i e; rw [e]
  · have : b = 1 - bitN m i := by omega
    rw [this]
theorem hash_next {g : Nat → H8} {f : Nat → List Value} {L k : Nat} (hf : f 0 = (g L).cells) (hk : k < L + 1) : joinF (hashF g) L f k = hashF g k := by
  simp only [joinF, nblt]
  by_cases h : k < L
  · simp [h]
  · obtain rfl : k = L := by omega
    simp [hf, hashF]
def pubsSt (seed : H8) (k : Nat) : St :=
  ⟨[none, some (XV.sv (.ptr 1 0 0 0)), none, some (XV.sv (.slc 2 8 0 k)), some (XV.int .i64 k)] ++ List.replicate 21 none,
   [(1, .cells 29 (seed.cells.map .raw)), (2, .vec 29 8 k (hashF (pubS seed)))], 3⟩
set_option maxHeartbeats 2000000 in
theorem publics_can (seed : H8) : Makes Tryz.prog 162 [.plain seed.x] [] (XV.sv (.slc 0 8 0 8)) (.vec 29 8 8 (hashF (pubS seed))) := by
  refine Makes.of Tryz.T_ok Tryz.func162 rfl _ _ _ _ rfl rfl rfl rfl 2 (fun C hC => ?_)
  (replace hC : C.n0 = 1 := hC; change Tri _ _ _ ⟨_, _, 1⟩ _)
  (refine Tri.cut 2 Tryz.mixed Tryz.T_ok ?_; refine xZ ?_)
  refine wD <| cutG <| Tri.ent (Ent.nils (t := 3) rfl 29 8) <| Tri.seq ?_
  (refine Tri.cut 1 Tryz.mixed Tryz.T_ok ?_; refine xZ ?_)
  refine wD <| cutG <| Tri.block ?_
  refine Tri.loop (α := { k : Nat // k ≤ 8 }) (fun k => pubsSt seed k.1) (fun k => 8 - k.1) ⟨0, Nat.zero_le _⟩ ?_ ?_
  · ((try dsimp only); refine Ent.renC [0, 1, 4] hC ?_ ?_ <;> repeat' (first | exact trivial | exact rfl | exact ⟨_, rfl, rfl, rfl, Nat.le_refl _, fun _ _ => rfl⟩ | exact ⟨_, rfl, rfl, rfl, fun _ _ => rfl⟩ | exact ⟨_, rfl, rfl, rfl⟩ | exact ⟨_, rfl, rfl⟩ | refine ⟨_, rfl, rfl, rfl, by omega, fun k hk => ?_⟩ | refine ⟨?_, ?_⟩ | fail))
    exact absurd hk (Nat.not_lt_zero _)
  rintro ⟨k, hk⟩
  dsimp only
  (refine Tri.cut 1 Tryz.mixed Tryz.T_ok ?_; refine xZ ?_)
  refine wC (fun h1 => ?_) (fun h1 => ?_)
  · (refine xG ?_)
    have h1' : k < 8 := xW
    have hw : IntKind.i64.wrap ((k : Int) + 1) = ((k + 1 : Nat) : Int) := xW
    refine wD <| cutG <| Tri.seq <| Tri.block <| Tri.of Tryz.mixed Tryz.T_ok ?_
    (refine xB ?_)
    (apply wP; exact (call_op rfl (entersB_of Tryz.func165 (by kernel_rfl)) rfl ((sign_can seed (k : Int) zeroH).at [] ⟨lend_plain rfl, lend_plain rfl, lend_plain rfl, trivial⟩ trivial)); refine xZ ?_)
    (apply wP; exact (call_op rfl (entersB_of Tryz.func196 (by kernel_rfl)) rfl ((rpublic_can zeroH (openS seed (k : Int) zeroH) (shutS seed (k : Int) zeroH)).at [] ⟨lend_plain rfl, lend_plain rfl, lend_plain rfl, trivial⟩ trivial)); refine xZ ?_)
    (refine wP _ _ (append_op Tryz.T_ok rfl rfl rfl rfl rfl [2, 21] (old_vec rfl rfl (Nat.le_refl _) rfl) (new_vec (lo := 0) rfl rfl (Nat.le_refl _) rfl) rfl (lt1 rfl) (by simp only [maxLen]; omega) (by dsimp only; omega)) ?_; refine xZ ?_)
    refine wD <| blockN <| cutG <| Tri.of Tryz.mixed Tryz.T_ok ?_
    (refine xB ?_)
    refine wD <| loopN ⟨⟨k + 1, h1'⟩, by dsimp only; omega, ?_⟩
    rw [hw]
    ((try dsimp only); refine Ent.renC [0, 1, 22] hC ?_ ?_ <;> repeat' (first | exact trivial | exact rfl | exact ⟨_, rfl, rfl, rfl, Nat.le_refl _, fun _ _ => rfl⟩ | exact ⟨_, rfl, rfl, rfl, fun _ _ => rfl⟩ | exact ⟨_, rfl, rfl, rfl⟩ | exact ⟨_, rfl, rfl⟩ | refine ⟨_, rfl, rfl, rfl, by omega, fun k hk => ?_⟩ | refine ⟨?_, ?_⟩ | fail))
    rename_i j hj
    exact hash_next (g := pubS seed) (L := j) (congrArg H8.cells (pub_signed seed j zeroH)) hk
  · (refine xG ?_)
    have h1' : k = 8 := xW
    subst h1'
    refine wD <| cutE <| loopX <| blockX <| cutG <| Tri.of Tryz.mixed Tryz.T_ok ?_
    (refine xB ?_)
    exact wD (Ends.made (.inr rfl) (Ent.refl _) rfl (Nat.le_succ _) rfl)
def treeH (seed : H8) : H8 := rootN (pubS seed) 8
theorem tree_can (seed : H8) : Reads Tryz.prog 117 [.plain seed.x] [] (hashX (treeH seed)) := by
  refine Reads.of Tryz.T_ok Tryz.func117 rfl _ _ _ rfl rfl (fun C hC => ?_)
  (replace hC : C.n0 = 1 := hC; change Tri _ _ _ ⟨_, _, 1⟩ _)
  refine Tri.of Tryz.mixed Tryz.T_ok ?_
  (refine xB ?_)
  (apply wP; exact (call_op rfl (entersB_of Tryz.func162 (by kernel_rfl)) rfl ((publics_can seed).at [] ⟨lend_plain rfl, trivial⟩ trivial)); refine xZ ?_)
  (apply wP; exact (call_op rfl (entersB_of Tryz.func161 (by kernel_rfl)) rfl ((root_can 8 (by decide) (by decide) (pubS seed)).at [4] ⟨lend_vec (lo := 0) rfl rfl (by decide) (fun i _ => by rw [Nat.zero_add]), trivial⟩ trivial)); refine xZ ?_)
  exact wD (Ends.plain (.inr rfl) rfl rfl)
def signM (seed : H8) (i : Nat) (m : H8) : SigM := ⟨(i : Int), openS seed (i : Int) m, shutS seed (i : Int) m, provH (pubS seed) 8 i⟩
theorem turns8 {i : Nat} (hi : i < 8) : (turnsN i 8).length = 3 := by
  have h : ∀ i, i < 8 → (turnsN i 8).length = 3 := by decide
  exact h i hi
set_option maxHeartbeats 4000000 in
theorem signTree_can (seed : H8) (i : Nat) (m : H8) (hi : i < 8) : Reads Tryz.prog 123 [.plain seed.x, .plain (.one (.raw (.int .i64 i))), .plain m.x] [] (.tup [(signM seed i m).x, .one (.raw (.bool true))]) := by
  refine Reads.of Tryz.T_ok Tryz.func123 rfl _ _ _ rfl (by simp only [XV.ok, List.all_cons, List.all_nil, Bool.and_true, Bool.and_eq_true]; exact ⟨raws_ok _ _, rfl⟩) (fun C hC => ?_)
  (replace hC : C.n0 = 3 := hC; change Tri _ _ _ ⟨_, _, 3⟩ _)
  have h3 := turns8 hi
  refine Tri.of Tryz.mixed Tryz.T_ok ?_
  (refine xB ?_)
  (refine wFd ?_ ?_; (first | refine decide_eq_false ?_ | rw [beq_eq_false_iff_ne] | rw [bne_eq_false_iff_eq]); exact xW; refine xG ?_)
  (refine wFd ?_ ?_; (first | refine decide_eq_false ?_ | rw [beq_eq_false_iff_ne] | rw [bne_eq_false_iff_eq]); exact xW; refine xG ?_)
  (apply wP; exact (call_op rfl (entersB_of Tryz.func165 (by kernel_rfl)) rfl ((sign_can seed (i : Int) m).at [] ⟨lend_plain rfl, lend_plain rfl, lend_plain rfl, trivial⟩ trivial)); refine xZ ?_)
  (apply wP; exact (call_op rfl (entersB_of Tryz.func162 (by kernel_rfl)) rfl ((publics_can seed).at [] ⟨lend_plain rfl, trivial⟩ trivial)); refine xZ ?_)
  (apply wP; exact (call_op rfl (entersB_of Tryz.func166 (by kernel_rfl)) rfl ((prove_can 8 (by decide) (pubS seed) i hi).at [29] ⟨lend_vec (lo := 0) rfl rfl (by decide) (fun i _ => by rw [Nat.zero_add]), lend_plain rfl, trivial⟩ trivial)); refine xZ ?_)
  rw [h3]
  (refine wP _ _ (copy_op Tryz.T_ok (k := 3) (m := 3) (g := hashF (provH (pubS seed) 8 i)) [15, 31] rfl rfl rfl rfl rfl (by decide) rfl rfl (new_vec (lo := 0) rfl rfl (Nat.le_refl _) rfl) rfl (by decide) (Nat.le_of_ble_eq_true rfl) (fun _ _ => rfl) rfl) ?_; refine xZ ?_)
  exact wD (Ends.plain (.inr rfl) rfl rfl)
def chkT (root m : H8) (s : SigM) : Bool := decide (0 ≤ s.idx) && (decide (s.idx < 8) && leads root (pubH (markOf m s.opn s.shut)) s.idx.toNat 8 s.path 3)
theorem sign_believed (seed : H8) (i : Nat) (hi : i < 8) (m : H8) : chkT (treeH seed) m (signM seed i m) = true := by
  unfold chkT signM
  have h1 : (0 : Int) ≤ (i : Int) := Int.natCast_nonneg _
  have h2 : (i : Int) < 8 := by omega
  simp only [h1, h2, decide_true, Bool.true_and, Int.toNat_natCast]
  refine leads_true (pubS seed) hi (pub_signed seed i m) rfl ?_ (fun k _ => rfl)
  rw [proveN_length, turns8 hi]
set_option maxHeartbeats 2000000 in
theorem kcheck_can (root m : H8) (s : SigM) : Reads Tryz.prog 197 [.plain root.x, .plain m.x, .plain s.x] [stepsP] (XV.bool (chkT root m s)) := by
  refine Reads.of Tryz.T_ok Tryz.func197 rfl _ _ _ (by simp only [canX, AD.plain, List.all_cons, List.all_nil, Bool.and_true, Bool.and_eq_true]; exact ⟨rfl, rfl, raws_ok _ _⟩) rfl (fun C hC => ?_)
  (replace hC : C.n0 = 4 := hC; change Tri _ _ _ ⟨_, _, 4⟩ _)
  refine Tri.of Tryz.mixed Tryz.T_ok ?_
  (refine xB ?_)
  refine wC (fun h1 => ?_) (fun h1 => ?_)
  · have h1' : 0 ≤ s.idx := of_decide_eq_true h1
    (refine xG ?_)
    refine wC (fun h2 => ?_) (fun h2 => ?_)
    · have h2' : s.idx < 8 := of_decide_eq_true h2
      have hn : ((s.idx.toNat : Nat) : Int) = s.idx := by omega
      (refine xG ?_)
      (apply wP; exact (call_op rfl (entersB_of Tryz.func218 (by kernel_rfl)) rfl ((lpublic_can m s.opn s.shut).at [3] ⟨lend_plain rfl, lend_plain rfl, lend_plain rfl, trivial⟩ ⟨lend_ext (c := 3) rfl rfl, trivial⟩)); refine xZ ?_)
      (apply wP; exact (call_op rfl (entersB_of Tryz.func217 (by kernel_rfl)) rfl ((mcheck_can root (pubH (markOf m s.opn s.shut)) s.idx.toNat 8 3 s.path (by omega) (by decide) (by decide)).at [3, 6] ⟨lend_plain rfl, lend_plain rfl, by rw [hn]; exact lend_plain rfl, lend_plain rfl, lend_sla rfl rfl (fun _ _ => rfl) rfl, trivial⟩ ⟨lend_ext (c := 3) rfl rfl, trivial⟩)); refine xZ ?_)
      refine wD (Ends.plain (.inr rfl) rfl ?_)
      rw [chkT, h1, h2, Bool.true_and, Bool.true_and]
    · (refine xG ?_)
      refine wD (Ends.plain (.inr rfl) rfl ?_)
      rw [chkT, h2, Bool.false_and, Bool.and_false]
  · (refine xG ?_)
    refine wD (Ends.plain (.inr rfl) rfl ?_)
    rw [chkT, h1, Bool.false_and]
end Go.Proofs.YtnpkdoggfnlapaaGreatDoor
namespace Go.Proofs.YtnpkdoggfnlapaaGreatDoor
set_option maxRecDepth 100000
open Go.Sx
theorem lend_ro0 {M : Mem} {rd : List Nat} {c sz n : Nat} {f : Nat → List Value} (hm : M.get c = some (.ro sz n f)) (hrd : nmem c rd = true) : Lends M rd (.one (.slc c sz 0 n)) (.row sz n f) :=
  lend_ro hm hrd (Nat.le_of_eq (Nat.zero_add _)) fun i _ => by rw [Nat.zero_add]
theorem lend_vec0 {M : Mem} {rd : List Nat} {c e sz n : Nat} {f : Nat → List Value} (hm : M.get c = some (.vec e sz n f)) (hrd : nmem c rd = true) : Lends M rd (.one (.slc c sz 0 n)) (.row sz n f) :=
  lend_vec hm hrd (Nat.le_of_eq (Nat.zero_add _)) fun i _ => by rw [Nat.zero_add]
structure OutM where
  to : H8
  amt : Int64
  deriving DecidableEq, Inhabited
def OutM.cells (o : OutM) : List Value := o.to.cells ++ [i64 o.amt]
structure FwdM where
  side : Int64
  acct : Int64
  owner : H8
  amt : Int64
  deriving DecidableEq, Inhabited
def FwdM.cells (f : FwdM) : List Value := i64 f.side :: i64 f.acct :: (f.owner.cells ++ [i64 f.amt])
def sig0 : SigM := ⟨0, fun _ => zeroH, fun _ => zeroH, fun _ => zeroH⟩
structure InM where
  pt : Pt
  key : H8
  sig : SigM
def InM.cells (x : InM) : List Value := x.pt.cells ++ (x.key.cells ++ x.sig.cells)
instance : Inhabited InM := ⟨⟨default, zeroH, sig0⟩⟩
structure SgdM where
  key : Int
  sig : SigM
def SgdM.cells (x : SgdM) : List Value := .int .i64 x.key :: x.sig.cells
instance : Inhabited SgdM := ⟨⟨0, sig0⟩⟩
structure ParM where
  len : Int
  win : Int
  need : Int
  keys : List H8
structure CertM where
  side : Int
  ep : Int
  qual : Int
  fin : H8
  root : H8
  outs : List OutM
  sigs : List SgdM
structure AccM where
  owner : H8
  amt : Int
  nonce : Int
def AccM.cells (a : AccM) : List Value := a.owner.cells ++ [.int .i64 a.amt, .int .i64 a.nonce]
structure ClaimM where
  side : Int
  acct : Int
  st : AccM
  proof : Nat → H8
def ClaimM.cells (c : ClaimM) : List Value := .int .i64 c.side :: .int .i64 c.acct :: (c.st.cells ++ tabF (hashF c.proof) 0 16)
structure TxM where
  kind : Int
  height : Int
  ins : List InM
  outs : List OutM
  fwds : List FwdM
  par : ParM
  cert : CertM
  claim : ClaimM
def par0 : ParM := ⟨0, 0, 0, []⟩
def cert0 : CertM := ⟨0, 0, 0, zeroH, zeroH, [], []⟩
def claim0 : ClaimM := ⟨0, 0, ⟨zeroH, 0, 0⟩, fun _ => zeroH⟩
def rowOf {E : Type} [Inhabited E] (cells : E → List Value) (l : List E) : Nat → List Value := fun i => cells (l.getD i default)
def insF (l : List InM) := rowOf InM.cells l
def outsF (l : List OutM) := rowOf OutM.cells l
def fwdsF (l : List FwdM) := rowOf FwdM.cells l
def sgdsF (l : List SgdM) := rowOf SgdM.cells l
def keysF (l : List H8) := rowOf H8.cells l
def iC (n : Int) : AC := .raw (.int .i64 n)
def rC (l : List Value) : List AC := l.map .raw
def ParM.ac (p : ParM) : List AC := [iC p.len, iC p.win, iC p.need, .row 8 p.keys.length (keysF p.keys)]
def CertM.ac (c : CertM) : List AC := iC c.side :: iC c.ep :: iC c.qual :: (rC c.fin.cells ++ (rC c.root.cells ++ [.row 9 c.outs.length (outsF c.outs), .row 282 c.sigs.length (sgdsF c.sigs)]))
def TxM.ac (t : TxM) : List AC := iC t.kind :: iC t.height :: .row 298 t.ins.length (insF t.ins) :: .row 9 t.outs.length (outsF t.outs) :: .row 11 t.fwds.length (fwdsF t.fwds) :: (t.par.ac ++ (t.cert.ac ++ rC t.claim.cells))
def withinB (n a b : Int) : Bool := decide (a ≤ n) && decide (n ≤ b)
theorem within_can (n a b : Int) : Reads Tryz.prog 134 [.plain (.one (.raw (.int .i64 n))), .plain (.one (.raw (.int .i64 a))), .plain (.one (.raw (.int .i64 b)))] [] (XV.bool (withinB n a b)) := by
  refine Reads.of Tryz.T_ok Tryz.func134 rfl _ _ _ rfl rfl (fun C hC => ?_)
  (replace hC : C.n0 = 3 := hC; change Tri _ _ _ ⟨_, _, 3⟩ _)
  refine Tri.of Tryz.mixed Tryz.T_ok ?_
  (refine xB ?_)
  refine wC (fun h1 => ?_) (fun h1 => ?_)
  · (refine xG ?_)
    exact wD (Ends.plain (.inr rfl) rfl (by rw [withinB, h1]; rfl))
  · (refine xG ?_)
    exact wD (Ends.plain (.inr rfl) rfl (by rw [withinB, h1]; rfl))
def moneyB (n : Int) : Bool := withinB n 1 1125899906842624
theorem moneyOK_can (n : Int) : Reads Tryz.prog 176 [.plain (.one (.raw (.int .i64 n)))] [] (XV.bool (moneyB n)) := by
  refine Reads.of Tryz.T_ok Tryz.func176 rfl _ _ _ rfl rfl (fun C hC => ?_)
  (replace hC : C.n0 = 1 := hC; change Tri _ _ _ ⟨_, _, 1⟩ _)
  refine Tri.of Tryz.mixed Tryz.T_ok ?_
  (refine xB ?_)
  (apply wP; exact (call_op rfl (entersB_of Tryz.func134 (by kernel_rfl)) rfl ((within_can n 1 1125899906842624).at [] ⟨lend_plain rfl, lend_plain rfl, lend_plain rfl, trivial⟩ trivial)); refine xZ ?_)
  exact wD (Ends.plain (.inr rfl) rfl rfl)
def acctB (s n : Int) : Bool := withinB s 0 7 && withinB n 0 65535
def zeroB (h : H8) : Bool := decide (h = zeroH)
theorem zero_can (h : H8) : Reads Tryz.prog 145 [.plain h.x] [] (XV.bool (zeroB h)) := by
  refine Reads.of Tryz.T_ok Tryz.func145 rfl _ _ _ rfl rfl (fun C hC => ?_)
  (replace hC : C.n0 = 1 := hC; change Tri _ _ _ ⟨_, _, 1⟩ _)
  refine Tri.of Tryz.mixed Tryz.T_ok ?_
  (refine xB ?_)
  (refine wP _ _ (eq_op hashE rfl h zeroH rfl rfl) ?_; refine xZ ?_)
  exact wD (Ends.plain (.inr rfl) rfl rfl)
theorem rzero_can (h : H8) : Reads Tryz.prog 147 [.plain h.x] [] (XV.bool (zeroB h)) := by
  refine Reads.of Tryz.T_ok Tryz.func147 rfl _ _ _ rfl rfl (fun C hC => ?_)
  (replace hC : C.n0 = 1 := hC; change Tri _ _ _ ⟨_, _, 1⟩ _)
  refine Tri.of Tryz.mixed Tryz.T_ok ?_
  (refine xB ?_)
  (refine wP _ _ (eq_op hashE rfl h zeroH rfl rfl) ?_; refine xZ ?_)
  exact wD (Ends.plain (.inr rfl) rfl rfl)
end Go.Proofs.YtnpkdoggfnlapaaGreatDoor
namespace Go.Proofs.YtnpkdoggfnlapaaGreatDoor
set_option maxRecDepth 100000
open Go.Sx
theorem all_take_succ {E : Type} [Inhabited E] {p : E → Bool} {l : List E} {i : Nat} (hi : i < l.length) : (l.take (i + 1)).all p = ((l.take i).all p && p (l.getD i default)) := by
  rw [List.take_add_one, List.all_append]
  have : l[i]?.toList = [l.getD i default] := by rw [List.getElem?_eq_getElem hi, List.getD_eq_getElem?_getD, List.getElem?_eq_getElem hi]; rfl
  rw [this]; simp
theorem all_false {E : Type} [Inhabited E] {p : E → Bool} {l : List E} {i : Nat} (hi : i < l.length) (h : p (l.getD i default) = false) : l.all p = false := by
  rw [List.all_eq_false]
  refine ⟨l.getD i default, ?_, by rw [h]; simp⟩
  rw [List.getD_eq_getElem?_getD, List.getElem?_eq_getElem hi]
  exact List.getElem_mem hi
def outOK (o : OutM) : Bool := !zeroB o.to && moneyB o.amt.toInt
def outsOK (l : List OutM) : Bool := l.all outOK && decide (l.length ≤ 16)
theorem outsOK_can (l : List OutM) (hl : l.length ≤ 1000000000) : Reads Tryz.prog 135 [.row 9 l.length (outsF l)] [] (XV.bool (outsOK l)) := by
  refine Reads.of Tryz.T_ok Tryz.func135 rfl _ _ _ rfl rfl (fun C hC => ?_)
  (replace hC : C.n0 = 1 := hC; change Tri _ _ _ ⟨_, _, 1⟩ _)
  (refine Tri.cut 1 Tryz.mixed Tryz.T_ok ?_; refine xZ ?_)
  refine wD <| cutG <| Tri.seq ?_
  (refine Tri.cut 1 Tryz.mixed Tryz.T_ok ?_; refine xZ ?_)
  refine wD <| cutG <| Tri.block ?_
  refine Tri.loop (α := { i : Nat // i ≤ l.length ∧ (l.take i).all outOK = true }) (fun i => ⟨[some (XV.sv (.slc 0 9 0 l.length)), none, none, none, none, some (XV.sv (.slc 0 9 0 l.length)), some (XV.int .i64 l.length), some (XV.int .i64 i.1)] ++ List.replicate 16 none, [(0, .ro 9 l.length (outsF l))], 1⟩) (fun i => l.length - i.1) ⟨0, Nat.zero_le _, rfl⟩ ?_ ?_
  · ((try dsimp only); refine Ent.renC [0] hC ?_ ?_ <;> repeat' (first | exact trivial | exact rfl | exact ⟨_, rfl, rfl, rfl, Nat.le_refl _, fun _ _ => rfl⟩ | exact ⟨_, rfl, rfl, rfl, fun _ _ => rfl⟩ | exact ⟨_, rfl, rfl, rfl⟩ | exact ⟨_, rfl, rfl⟩ | refine ⟨_, rfl, rfl, rfl, by omega, fun k hk => ?_⟩ | refine ⟨?_, ?_⟩ | fail))
  rintro ⟨i, hi, ha⟩
  dsimp only
  (refine Tri.cut 2 Tryz.mixed Tryz.T_ok ?_; refine xZ ?_)
  refine wC (fun h1 => ?_) (fun h1 => ?_)
  · (refine xG ?_)
    have h1' : i < l.length := xW
    have hs := all_take_succ (p := outOK) h1'
    have hw : IntKind.i64.wrap ((i : Int) + 1) = ((i + 1 : Nat) : Int) := xW
    refine wD <| cutG <| Tri.seq <| Tri.block <| Tri.of Tryz.mixed Tryz.T_ok ?_
    (refine xB ?_)
    (repeat (refine wN ?_ ?_; exact xW; refine xG ?_))
    simp only [Nat.zero_add, Int.toNat_natCast]
    (apply wP; exact (call_op rfl (entersB_of Tryz.func145 (by kernel_rfl)) rfl ((zero_can (l.getD i default).to).at [] ⟨lend_plain rfl, trivial⟩ trivial)); refine xZ ?_)
    refine wC (fun h2 => ?_) (fun h2 => ?_)
    · (refine xG ?_)
      refine wD <| blockR <| cutR <| loopR <| blockR <| cutR <| Ends.plain (.inr rfl) rfl ?_
      rw [outsOK, all_false h1' (by rw [outOK, h2]; rfl), Bool.false_and]
    · (refine xG ?_)
      (apply wP; exact (call_op rfl (entersB_of Tryz.func176 (by kernel_rfl)) rfl ((moneyOK_can (l.getD i default).amt.toInt).at [] ⟨lend_plain rfl, trivial⟩ trivial)); refine xZ ?_)
      refine wC (fun h3 => ?_) (fun h3 => ?_)
      · (refine xG ?_)
        refine wD <| blockR <| cutR <| loopR <| blockR <| cutR <| Ends.plain (.inr rfl) rfl ?_
        rw [outsOK, all_false h1' (by rw [outOK, h2, show moneyB (l.getD i default).amt.toInt = false by simpa using h3]; rfl), Bool.false_and]
      · (refine xG ?_)
        refine wD <| blockN <| cutG <| Tri.of Tryz.mixed Tryz.T_ok ?_
        (refine xB ?_)
        refine wD <| loopN ⟨⟨i + 1, h1', by rw [hs, ha, outOK, h2, show moneyB (l.getD i default).amt.toInt = true by simpa using h3]; rfl⟩, by dsimp only; omega, ?_⟩
        rw [hw]
        ((try dsimp only); refine Ent.renC [0] hC ?_ ?_ <;> repeat' (first | exact trivial | exact rfl | exact ⟨_, rfl, rfl, rfl, Nat.le_refl _, fun _ _ => rfl⟩ | exact ⟨_, rfl, rfl, rfl, fun _ _ => rfl⟩ | exact ⟨_, rfl, rfl, rfl⟩ | exact ⟨_, rfl, rfl⟩ | refine ⟨_, rfl, rfl, rfl, by omega, fun k hk => ?_⟩ | refine ⟨?_, ?_⟩ | fail))
  · (refine xG ?_)
    have h1' : i = l.length := xW
    subst h1'
    rw [List.take_length] at ha
    refine wD <| cutE <| loopX <| blockX <| cutG <| Tri.of Tryz.mixed Tryz.T_ok ?_
    (refine xB ?_)
    refine wD (Ends.plain (.inr rfl) rfl ?_)
    have e : decide ((l.length : Int) ≤ 16) = decide (l.length ≤ 16) := by rw [Bool.eq_iff_iff]; simp; omega
    rw [outsOK, ha, e, Bool.true_and]
def AD.cell (sz : Nat) (cells : List Value) : AD := ⟨1, fun i => .one (.ptr i 0 sz 0), fun i => [(i, .ro sz 1 fun _ => cells)], fun h => one_low rfl h⟩
def InM.x (x : InM) : CV := .agg (x.cells.map .raw)
end Go.Proofs.YtnpkdoggfnlapaaGreatDoor
namespace Go.Proofs.YtnpkdoggfnlapaaGreatDoor
set_option maxRecDepth 100000
open Go.Sx
def ptAt (id : H8) (i : Nat) : Pt := ⟨id, Int64.ofNat i⟩
def outsGo (id : H8) (h : Int64) (base : Bool) : USet → Nat → List OutM → USet × Int
  | S, _, [] => (S, 0)
  | S, i, o :: r => if S.has (ptAt id i) = true then (S, 6) else if S.okB (ptAt id i) ⟨o.to, o.amt, h, base⟩ = true then outsGo id h base (S.add1 (ptAt id i) ⟨o.to, o.amt, h, base⟩) (i + 1) r else (S, 5)
theorem dropD_cons {E : Type} [Inhabited E] {l : List E} {i : Nat} (hi : i < l.length) : l.drop i = l.getD i default :: l.drop (i + 1) := by
  rw [List.drop_eq_getElem_cons hi, List.getD_eq_getElem?_getD, List.getElem?_eq_getElem hi]; rfl
theorem ofNat_toInt {i : Nat} (h : i < 1000000) : ((i : Nat) : Int) = (Int64.ofNat i).toInt := by
  rw [Int64.toInt_ofNat_of_lt (by omega)]
structure OutsI (id : H8) (h : Int64) (base : Bool) (S : USet) (l : List OutM) where
  i : Nat
  W : USet
  le : i ≤ l.length
  go : outsGo id h base S 0 l = outsGo id h base W i (l.drop i)
  steps : W.steps.length = S.steps.length + i
set_option maxHeartbeats 2000000 in
theorem outs_can (S : USet) (id : H8) (l : List OutM) (h : Int64) (base : Bool) (hl : l.length ≤ 1000) (hS : S.steps.length < 900000) :
    Acts Tryz.prog 52 (.abs (usetP S)) (.abs (usetP (outsGo id h base S 0 l).1)) [.plain id.x, .row 9 l.length (outsF l), .plain (.one (.raw (.int .i64 h.toInt))), .plain (.one (.raw (.bool base)))] [] (XV.int .i64 (outsGo id h base S 0 l).2) := by
  refine Acts.of Tryz.T_ok Tryz.func52 rfl _ _ _ _ _ rfl rfl rfl (fun C hC => ?_)
  (replace hC : C.n0 = 5 := hC; change Tri _ _ _ ⟨_, _, 5⟩ _)
  (refine Tri.cut 2 Tryz.mixed Tryz.T_ok ?_; refine xZ ?_)
  refine wD <| cutG <| Tri.seq ?_
  (refine Tri.cut 1 Tryz.mixed Tryz.T_ok ?_; refine xZ ?_)
  refine wD <| cutG <| Tri.block ?_
  refine Tri.loop (α := OutsI id h base S l) (fun x => ⟨[some (XV.sv (.ptr 0 0 0 0)), none, none, some (XV.int .i64 h.toInt), some (XV.bool base), none, some (XV.sv (.ptr 5 0 0 0))] ++ List.replicate 11 none ++ [some (XV.sv (.slc 2 9 0 l.length)), some (XV.int .i64 l.length), some (XV.int .i64 x.i)] ++ List.replicate 23 none, [(0, .abs (usetP x.W)), (2, .ro 9 l.length (outsF l)), (5, .cells 29 (id.cells.map .raw))], 6⟩) (fun x => l.length - x.i) ⟨0, S, Nat.zero_le _, by rw [List.drop_zero], rfl⟩ ?_ ?_
  · ((try dsimp only); refine Ent.renC [0, 1, 2, 3, 4, 5] hC ?_ ?_ <;> repeat' (first | exact trivial | exact rfl | exact ⟨_, rfl, rfl, rfl, Nat.le_refl _, fun _ _ => rfl⟩ | exact ⟨_, rfl, rfl, rfl, fun _ _ => rfl⟩ | exact ⟨_, rfl, rfl, rfl⟩ | exact ⟨_, rfl, rfl⟩ | refine ⟨_, rfl, rfl, rfl, by omega, fun k hk => ?_⟩ | refine ⟨?_, ?_⟩ | fail))
  rintro ⟨i, W, hi, hg, hst⟩
  dsimp only
  (refine Tri.cut 2 Tryz.mixed Tryz.T_ok ?_; refine xZ ?_)
  refine wC (fun h1 => ?_) (fun h1 => ?_)
  · (refine xG ?_)
    have h1' : i < l.length := xW
    have hw : IntKind.i64.wrap ((i : Int) + 1) = ((i + 1 : Nat) : Int) := xW
    have e64 := ofNat_toInt (i := i) (by omega)
    rw [dropD_cons h1', outsGo] at hg
    refine wD <| cutG <| Tri.seq <| Tri.block <| Tri.of Tryz.mixed Tryz.T_ok ?_
    (refine xB ?_)
    (repeat (refine wN ?_ ?_; exact xW; refine xG ?_))
    simp only [Nat.zero_add, Int.toNat_natCast]
    rw [e64]
    (apply wP; exact (call_op rfl (entersB_of Tryz.func21 (by kernel_rfl)) rfl (get_spec W (ptAt id i) rfl rfl)); refine xZ ?_)
    refine wC (fun h2 => ?_) (fun h2 => ?_)
    · rw [if_pos h2] at hg
      (refine xG ?_)
      refine wD <| blockR <| cutR <| loopR <| blockR <| cutR ?_
      rw [hg]
      exact Ends.shutN (.inr rfl) (Ent.refl _) rfl rfl rfl
    · rw [if_neg (by rw [h2]; simp)] at hg
      (refine xG ?_)
      (apply wP; exact (call_op rfl (entersB_of Tryz.func99 (by kernel_rfl)) rfl (uadd_spec W (ptAt id i) ⟨(l.getD i default).to, (l.getD i default).amt, h, base⟩ (by omega) rfl rfl)); refine xZ ?_)
      refine wC (fun h3 => ?_) (fun h3 => ?_)
      · have h3 : W.okB (ptAt id i) ⟨(l.getD i default).to, (l.getD i default).amt, h, base⟩ = false := by simpa using h3
        rw [if_neg (by rw [h3]; simp)] at hg
        (refine xG ?_)
        refine wD <| blockR <| cutR <| loopR <| blockR <| cutR ?_
        rw [hg, USet.add, if_neg (by rw [h3]; simp)]
        exact Ends.shutN (.inr rfl) (Ent.refl _) rfl rfl rfl
      · have h3 : W.okB (ptAt id i) ⟨(l.getD i default).to, (l.getD i default).amt, h, base⟩ = true := by simpa using h3
        rw [if_pos h3] at hg
        (refine xG ?_)
        refine wD <| blockN <| cutG <| Tri.of Tryz.mixed Tryz.T_ok ?_
        (refine xB ?_)
        refine wD <| loopN ⟨⟨i + 1, W.add1 (ptAt id i) ⟨(l.getD i default).to, (l.getD i default).amt, h, base⟩, h1', hg, by simp only [USet.add1, List.length_append, List.length_singleton]; omega⟩, by dsimp only; omega, ?_⟩
        rw [← e64, hw, USet.add, if_pos h3]
        ((try dsimp only); refine Ent.renC [0, 1, 2, 3, 4, 5] hC ?_ ?_ <;> repeat' (first | exact trivial | exact rfl | exact ⟨_, rfl, rfl, rfl, Nat.le_refl _, fun _ _ => rfl⟩ | exact ⟨_, rfl, rfl, rfl, fun _ _ => rfl⟩ | exact ⟨_, rfl, rfl, rfl⟩ | exact ⟨_, rfl, rfl⟩ | refine ⟨_, rfl, rfl, rfl, by omega, fun k hk => ?_⟩ | refine ⟨?_, ?_⟩ | fail))
  · (refine xG ?_)
    have h1' : i = l.length := xW
    subst h1'
    rw [List.drop_length, outsGo] at hg
    refine wD <| cutE <| loopX <| blockX <| cutG <| Tri.of Tryz.mixed Tryz.T_ok ?_
    rw [hg]
    (refine xB ?_)
    exact wD (Ends.shutN (.inr rfl) (Ent.refl _) rfl rfl rfl)
end Go.Proofs.YtnpkdoggfnlapaaGreatDoor
namespace Go.Proofs
open Go.Shelf
end Go.Proofs
namespace Go.Proofs.YtnpkdoggfnlapaaGreatDoor
set_option maxRecDepth 100000
open Go.Sx
theorem range_all_succ (p : Nat → Bool) (i : Nat) : (List.range (i + 1)).all p = ((List.range i).all p && p i) := by rw [List.range_succ, List.all_append]; simp
theorem range_all_false {p : Nat → Bool} {n i : Nat} (hi : i < n) (h : p i = false) : (List.range n).all p = false := by
  rw [List.all_eq_false]
  exact ⟨i, List.mem_range.2 hi, by rw [h]; simp⟩
theorem getD_take {E : Type} [Inhabited E] {l : List E} {i j : Nat} (h : j < i) : (l.take i).getD j default = l.getD j default := by
  rw [List.getD_eq_getElem?_getD, List.getD_eq_getElem?_getD, List.getElem?_take_of_lt h]
theorem LendsC.all_raw {M : Mem} {rd : List Nat} : ∀ vs : List Value, LendsC M rd (vs.map .raw) (vs.map .raw)
  | [] => trivial
  | _ :: vs => ⟨rfl, LendsC.all_raw vs⟩
def parCells (p : ParM) (s : SV) : List SV := .raw (.int .i64 p.len) :: .raw (.int .i64 p.win) :: .raw (.int .i64 p.need) :: [s]
def certCells (c : CertM) (s1 s2 : SV) : List SV := .raw (.int .i64 c.side) :: .raw (.int .i64 c.ep) :: .raw (.int .i64 c.qual) :: (c.fin.cells.map .raw ++ (c.root.cells.map .raw ++ [s1, s2]))
def txCells (t : TxM) (s1 s2 s3 s4 s5 s6 : SV) : List SV := .raw (.int .i64 t.kind) :: .raw (.int .i64 t.height) :: s1 :: s2 :: s3 :: (parCells t.par s4 ++ (certCells t.cert s5 s6 ++ t.claim.cells.map .raw))
theorem lend_cert_cells {M : Mem} {rd : List Nat} {c : CertM} {s1 s2 : SV} {r : List SV} {l : List AC} (h1 : Lends M rd (.one s1) (.row 9 c.outs.length (outsF c.outs))) (h2 : Lends M rd (.one s2) (.row 282 c.sigs.length (sgdsF c.sigs))) (h : LendsC M rd r l) : LendsC M rd (certCells c s1 s2 ++ r) (c.ac ++ l) := by
  refine ⟨rfl, rfl, rfl, ?_⟩
  show LendsC M rd ((c.fin.cells.map .raw ++ (c.root.cells.map .raw ++ [s1, s2])) ++ r) ((rC c.fin.cells ++ (rC c.root.cells ++ [AC.row 9 c.outs.length (outsF c.outs), .row 282 c.sigs.length (sgdsF c.sigs)])) ++ l)
  rw [List.append_assoc, List.append_assoc, List.append_assoc, List.append_assoc]
  refine LendsC.raws ?_ _
  refine LendsC.raws ?_ _
  exact ⟨h1, h2, h⟩
theorem lend_tx {M : Mem} {rd : List Nat} {t : TxM} {s1 s2 s3 s4 s5 s6 : SV} (h1 : Lends M rd (.one s1) (.row 298 t.ins.length (insF t.ins))) (h2 : Lends M rd (.one s2) (.row 9 t.outs.length (outsF t.outs))) (h3 : Lends M rd (.one s3) (.row 11 t.fwds.length (fwdsF t.fwds)))
    (h4 : Lends M rd (.one s4) (.row 8 t.par.keys.length (keysF t.par.keys))) (h5 : Lends M rd (.one s5) (.row 9 t.cert.outs.length (outsF t.cert.outs))) (h6 : Lends M rd (.one s6) (.row 282 t.cert.sigs.length (sgdsF t.cert.sigs))) : Lends M rd (.agg (txCells t s1 s2 s3 s4 s5 s6)) (.box t.ac) :=
  lend_box ⟨rfl, rfl, h1, h2, h3, rfl, rfl, rfl, h4, lend_cert_cells h5 h6 (LendsC.all_raw _)⟩
def parZ (p : ParM) : Bool := p.len == 0 && (p.win == 0 && (p.need == 0 && (p.keys.length : Int) == 0))
def certZ (c : CertM) : Bool := c.side == 0 && (c.ep == 0 && (c.qual == 0 && (zeroB c.fin && (zeroB c.root && ((c.outs.length + c.sigs.length : Nat) : Int) == 0))))
def emptyB (t : TxM) : Bool := t.height == 0 && (((t.ins.length + t.outs.length + t.fwds.length : Nat) : Int) == 0 && (parZ t.par && certZ t.cert))
structure Sized (t : TxM) : Prop where
  ins : t.ins.length ≤ 1000000000
  outs : t.outs.length ≤ 1000000000
  fwds : t.fwds.length ≤ 1000000000
  keys : t.par.keys.length ≤ 1000000000
  couts : t.cert.outs.length ≤ 1000000000
  sigs : t.cert.sigs.length ≤ 1000000000
def TxM.cs (t : TxM) : List SV := boxC 0 t.ac
def emptyM (t : TxM) : Mem := [(6, .cells 48 t.cs)]
def certCs (t : TxM) : List SV := boxC 4 t.cert.ac
def emptySt2 (t : TxM) : St := ⟨[none, some (XV.sv (.ptr 6 0 0 0)), none, none, some (XV.sv (.ptr 7 0 0 0)), some (XV.bool (parZ t.par))] ++ List.replicate 86 none, emptyM t ++ [(7, .cells 43 (certCs t))], 8⟩
def emptySt3 (t : TxM) : St := ⟨[none, some (XV.sv (.ptr 6 0 0 0)), none, none, none, some (XV.bool (parZ t.par)), some (XV.bool (certZ t.cert))] ++ List.replicate 85 none, emptyM t, 7⟩
def claimK : List Kd := [.int .i64, .int .i64] ++ (hashKinds ++ ([.int .i64, .int .i64] ++ (List.replicate 16 hashKinds).flatten))
theorem claim_deep : Tryz.prog.keyTypeAt 8 46 = true := by kernel_rfl
theorem claim_keyT : Tryz.prog.keyType 46 = true := by kernel_rfl
theorem claim_row : (46 : TypeId) < Tryz.prog.types.size := of_decide_eq_true (by kernel_rfl)
theorem claim_law : WideMaps.KeyLaw Tryz.prog 46 := deep_law_laid laid (m := 8) (by omega) claim_row claim_deep (by rw [Tryz.underlying46])
theorem claim_cells : claimK.length = Tryz.prog.cellsOf 46 := by kernel_rfl
theorem claim_noguard : Tryz.prog.eqGuardType Tryz.prog.depth 46 = false := by kernel_rfl
def ClaimV := { cs : List Value // Fits claimK cs }
noncomputable instance : DecidableEq ClaimV := fun _ _ => Classical.propDecidable _
def ClaimV.v (c : ClaimV) : Value := .agg c.1.toArray
theorem ClaimV.inj (a b : ClaimV) (h : a.v = b.v) : a = b := by
  apply Subtype.ext
  have := congrArg (fun v => v.cells.toList) h
  simpa [ClaimV.v, Value.cells] using this
theorem claim_key (h : ClaimV) : ∃ l, keyOf Tryz.prog 46 h.v = some l := keyOf_fits Tryz.T_ok (f := 8) (ks := claimK) rfl claim_deep claim_keyT types_many (by rw [Tryz.underlying46]) h.2 claim_cells
theorem claimE : EqK Tryz.prog 46 ClaimV.v := EqK.of (m := 8) claim_law (by omega) claim_deep (by rw [Tryz.underlying46]) claim_key ClaimV.inj claim_noguard (fun a => ⟨_, rfl⟩)
theorem hashes_fits : ∀ (n : Nat) (f : Nat → H8) (i : Nat), Fits ((List.replicate n hashKinds).flatten) (tabF (hashF f) i n)
  | 0, _, _ => rfl
  | n + 1, f, i => by rw [List.replicate_succ, List.flatten_cons]; exact Fits.append (hash_fits (f i)) (hashes_fits n f (i + 1))
def inI64 (n : Int) : Prop := (Lit.int .i64 n).wf = true
structure ClaimM.Wf (c : ClaimM) : Prop where
  side : inI64 c.side
  acct : inI64 c.acct
  amt : inI64 c.st.amt
  nonce : inI64 c.st.nonce
theorem ClaimM.fits {c : ClaimM} (h : c.Wf) : Fits claimK c.cells := by
  refine ⟨_, _, rfl, ⟨_, rfl, h.side⟩, _, _, rfl, ⟨_, rfl, h.acct⟩, ?_⟩
  have e : c.st.cells ++ tabF (hashF c.proof) 0 16 = c.st.owner.cells ++ ([.int .i64 c.st.amt, .int .i64 c.st.nonce] ++ tabF (hashF c.proof) 0 16) := by simp [AccM.cells]
  rw [e]
  show Fits (hashKinds ++ ([.int .i64, .int .i64] ++ (List.replicate 16 hashKinds).flatten)) _
  exact Fits.append (hash_fits _) (Fits.append ⟨_, _, rfl, ⟨_, rfl, h.amt⟩, _, _, rfl, ⟨_, rfl, h.nonce⟩, rfl⟩ (hashes_fits 16 _ 0))
theorem claim0_wf : claim0.Wf := ⟨rfl, rfl, rfl, rfl⟩
def ClaimM.cv (c : ClaimM) (h : c.Wf) : ClaimV := ⟨c.cells, c.fits h⟩
noncomputable def claimZ (c : ClaimM) (h : c.Wf) : Bool := decide (c.cv h = claim0.cv claim0_wf)
theorem claimZ_zero (h : claim0.Wf) : claimZ claim0 h = true := decide_eq_true rfl
set_option maxHeartbeats 4000000 in
theorem empty_can (t : TxM) (hs : Sized t) (hc : t.claim.Wf) : Reads Tryz.prog 140 [.box t.ac] [] (XV.bool (emptyB t && claimZ t.claim hc)) := by
  have hi := hs.ins
  have ho := hs.outs
  have hf := hs.fwds
  have hco := hs.couts
  have hcs := hs.sigs
  refine Reads.of Tryz.T_ok Tryz.func140 rfl _ _ _ rfl rfl (fun C hC => ?_)
  (replace hC : C.n0 = 6 := hC; change Tri _ _ _ ⟨_, _, 6⟩ _)
  (refine Tri.cut 2 Tryz.mixed Tryz.T_ok ?_; refine xZ ?_)
  refine wD <| cutG <| Tri.merge (emptySt2 t) (Tri.of Tryz.mixed Tryz.T_ok ?_) ?_
  · (refine xB ?_)
    refine wC (fun h1 => ?_) (fun h1 => ?_)
    · (refine xG ?_)
      refine wC (fun h2 => ?_) (fun h2 => ?_)
      · (refine xG ?_)
        refine wC (fun h3 => ?_) (fun h3 => ?_)
        · (refine xG ?_)
          refine wD ⟨rfl, ?_⟩
          unfold emptySt2
          rw [show parZ t.par = ((t.par.keys.length : Int) == 0) by rw [parZ, h1, h2, h3]; rfl]
          ((try dsimp only); refine Ent.renC [0, 1, 2, 3, 4, 5, 6, 13] hC ?_ ?_ <;> repeat' (first | exact trivial | exact rfl | exact ⟨_, rfl, rfl, rfl, Nat.le_refl _, fun _ _ => rfl⟩ | exact ⟨_, rfl, rfl, rfl, fun _ _ => rfl⟩ | exact ⟨_, rfl, rfl, rfl⟩ | exact ⟨_, rfl, rfl⟩ | refine ⟨_, rfl, rfl, rfl, by omega, fun k hk => ?_⟩ | refine ⟨?_, ?_⟩ | fail))
        · (refine xG ?_)
          refine wD ⟨rfl, ?_⟩
          unfold emptySt2
          rw [show parZ t.par = false by rw [parZ, h1, h2, h3]; rfl]
          ((try dsimp only); refine Ent.renC [0, 1, 2, 3, 4, 5, 6, 13] hC ?_ ?_ <;> repeat' (first | exact trivial | exact rfl | exact ⟨_, rfl, rfl, rfl, Nat.le_refl _, fun _ _ => rfl⟩ | exact ⟨_, rfl, rfl, rfl, fun _ _ => rfl⟩ | exact ⟨_, rfl, rfl, rfl⟩ | exact ⟨_, rfl, rfl⟩ | refine ⟨_, rfl, rfl, rfl, by omega, fun k hk => ?_⟩ | refine ⟨?_, ?_⟩ | fail))
      · (refine xG ?_)
        refine wD ⟨rfl, ?_⟩
        unfold emptySt2
        rw [show parZ t.par = false by rw [parZ, h1, h2]; rfl]
        ((try dsimp only); refine Ent.renC [0, 1, 2, 3, 4, 5, 6, 13] hC ?_ ?_ <;> repeat' (first | exact trivial | exact rfl | exact ⟨_, rfl, rfl, rfl, Nat.le_refl _, fun _ _ => rfl⟩ | exact ⟨_, rfl, rfl, rfl, fun _ _ => rfl⟩ | exact ⟨_, rfl, rfl, rfl⟩ | exact ⟨_, rfl, rfl⟩ | refine ⟨_, rfl, rfl, rfl, by omega, fun k hk => ?_⟩ | refine ⟨?_, ?_⟩ | fail))
    · (refine xG ?_)
      refine wD ⟨rfl, ?_⟩
      unfold emptySt2
      rw [show parZ t.par = false by rw [parZ, h1]; rfl]
      ((try dsimp only); refine Ent.renC [0, 1, 2, 3, 4, 5, 6, 13] hC ?_ ?_ <;> repeat' (first | exact trivial | exact rfl | exact ⟨_, rfl, rfl, rfl, Nat.le_refl _, fun _ _ => rfl⟩ | exact ⟨_, rfl, rfl, rfl, fun _ _ => rfl⟩ | exact ⟨_, rfl, rfl, rfl⟩ | exact ⟨_, rfl, rfl⟩ | refine ⟨_, rfl, rfl, rfl, by omega, fun k hk => ?_⟩ | refine ⟨?_, ?_⟩ | fail))
  refine Tri.merge (emptySt3 t) (Tri.of Tryz.mixed Tryz.T_ok ?_) (Tri.of Tryz.mixed Tryz.T_ok ?_)
  · (refine xB ?_)
    have fin : ∀ {S : St} {b : Bool}, b = certZ t.cert → Ent C S ⟨(emptySt3 t).slots.set 6 (some (XV.bool b)), (emptySt3 t).mem, 7⟩ → Ent C S (emptySt3 t) := by
      intro S b hb h; subst hb; exact h
    refine wC (fun h1 => ?_) (fun h1 => ?_)
    · (refine xG ?_)
      refine wC (fun h2 => ?_) (fun h2 => ?_)
      · (refine xG ?_)
        refine wC (fun h3 => ?_) (fun h3 => ?_)
        · (refine xG ?_)
          (apply wP; exact (call_op rfl (entersB_of Tryz.func145 (by kernel_rfl)) rfl ((zero_can t.cert.fin).at [] ⟨lend_plain rfl, trivial⟩ trivial)); refine xZ ?_)
          refine wC (fun h4 => ?_) (fun h4 => ?_)
          · (refine xG ?_)
            (apply wP; exact (call_op rfl (entersB_of Tryz.func145 (by kernel_rfl)) rfl ((zero_can t.cert.root).at [] ⟨lend_plain rfl, trivial⟩ trivial)); refine xZ ?_)
            refine wC (fun h5 => ?_) (fun h5 => ?_)
            · (refine xG ?_)
              have e : IntKind.i64.wrap ((t.cert.outs.length : Int) + (t.cert.sigs.length : Int)) = ((t.cert.outs.length + t.cert.sigs.length : Nat) : Int) := xW
              rw [e]
              refine wD ⟨rfl, fin (b := (((t.cert.outs.length + t.cert.sigs.length : Nat) : Int) == 0)) (by rw [certZ, h1, h2, h3, h4, h5]; rfl) ?_⟩
              ((try dsimp only); refine Ent.renC [0, 1, 2, 3, 4, 5, 6] hC ?_ ?_ <;> repeat' (first | exact trivial | exact rfl | exact ⟨_, rfl, rfl, rfl, Nat.le_refl _, fun _ _ => rfl⟩ | exact ⟨_, rfl, rfl, rfl, fun _ _ => rfl⟩ | exact ⟨_, rfl, rfl, rfl⟩ | exact ⟨_, rfl, rfl⟩ | refine ⟨_, rfl, rfl, rfl, by omega, fun k hk => ?_⟩ | refine ⟨?_, ?_⟩ | fail))
            · (refine xG ?_)
              refine wD ⟨rfl, fin (b := false) (by rw [certZ, h1, h2, h3, h4, h5]; rfl) ?_⟩
              ((try dsimp only); refine Ent.renC [0, 1, 2, 3, 4, 5, 6] hC ?_ ?_ <;> repeat' (first | exact trivial | exact rfl | exact ⟨_, rfl, rfl, rfl, Nat.le_refl _, fun _ _ => rfl⟩ | exact ⟨_, rfl, rfl, rfl, fun _ _ => rfl⟩ | exact ⟨_, rfl, rfl, rfl⟩ | exact ⟨_, rfl, rfl⟩ | refine ⟨_, rfl, rfl, rfl, by omega, fun k hk => ?_⟩ | refine ⟨?_, ?_⟩ | fail))
          · (refine xG ?_)
            refine wD ⟨rfl, fin (b := false) (by rw [certZ, h1, h2, h3, h4]; rfl) ?_⟩
            ((try dsimp only); refine Ent.renC [0, 1, 2, 3, 4, 5, 6] hC ?_ ?_ <;> repeat' (first | exact trivial | exact rfl | exact ⟨_, rfl, rfl, rfl, Nat.le_refl _, fun _ _ => rfl⟩ | exact ⟨_, rfl, rfl, rfl, fun _ _ => rfl⟩ | exact ⟨_, rfl, rfl, rfl⟩ | exact ⟨_, rfl, rfl⟩ | refine ⟨_, rfl, rfl, rfl, by omega, fun k hk => ?_⟩ | refine ⟨?_, ?_⟩ | fail))
        · (refine xG ?_)
          refine wD ⟨rfl, fin (b := false) (by rw [certZ, h1, h2, h3]; rfl) ?_⟩
          ((try dsimp only); refine Ent.renC [0, 1, 2, 3, 4, 5, 6] hC ?_ ?_ <;> repeat' (first | exact trivial | exact rfl | exact ⟨_, rfl, rfl, rfl, Nat.le_refl _, fun _ _ => rfl⟩ | exact ⟨_, rfl, rfl, rfl, fun _ _ => rfl⟩ | exact ⟨_, rfl, rfl, rfl⟩ | exact ⟨_, rfl, rfl⟩ | refine ⟨_, rfl, rfl, rfl, by omega, fun k hk => ?_⟩ | refine ⟨?_, ?_⟩ | fail))
      · (refine xG ?_)
        refine wD ⟨rfl, fin (b := false) (by rw [certZ, h1, h2]; rfl) ?_⟩
        ((try dsimp only); refine Ent.renC [0, 1, 2, 3, 4, 5, 6] hC ?_ ?_ <;> repeat' (first | exact trivial | exact rfl | exact ⟨_, rfl, rfl, rfl, Nat.le_refl _, fun _ _ => rfl⟩ | exact ⟨_, rfl, rfl, rfl, fun _ _ => rfl⟩ | exact ⟨_, rfl, rfl, rfl⟩ | exact ⟨_, rfl, rfl⟩ | refine ⟨_, rfl, rfl, rfl, by omega, fun k hk => ?_⟩ | refine ⟨?_, ?_⟩ | fail))
    · (refine xG ?_)
      refine wD ⟨rfl, fin (b := false) (by rw [certZ, h1]; rfl) ?_⟩
      ((try dsimp only); refine Ent.renC [0, 1, 2, 3, 4, 5, 6] hC ?_ ?_ <;> repeat' (first | exact trivial | exact rfl | exact ⟨_, rfl, rfl, rfl, Nat.le_refl _, fun _ _ => rfl⟩ | exact ⟨_, rfl, rfl, rfl, fun _ _ => rfl⟩ | exact ⟨_, rfl, rfl, rfl⟩ | exact ⟨_, rfl, rfl⟩ | refine ⟨_, rfl, rfl, rfl, by omega, fun k hk => ?_⟩ | refine ⟨?_, ?_⟩ | fail))
  · (refine xB ?_)
    refine wC (fun h1 => ?_) (fun h1 => ?_)
    · (refine xG ?_)
      have e1 : IntKind.i64.wrap ((t.ins.length : Int) + (t.outs.length : Int)) = ((t.ins.length + t.outs.length : Nat) : Int) := xW
      have e2 : IntKind.i64.wrap (((t.ins.length + t.outs.length : Nat) : Int) + (t.fwds.length : Int)) = ((t.ins.length + t.outs.length + t.fwds.length : Nat) : Int) := xW
      simp only [e1, e2]
      refine wC (fun h2 => ?_) (fun h2 => ?_)
      · (refine xG ?_)
        refine wC (fun h3 => ?_) (fun h3 => ?_)
        · (refine xG ?_)
          refine wC (fun h4 => ?_) (fun h4 => ?_)
          · (refine xG ?_)
            (refine wP _ _ (eq_op claimE rfl (t.claim.cv hc) (claim0.cv claim0_wf) rfl rfl) ?_; refine xZ ?_)
            refine wD (Ends.plain (.inr rfl) rfl ?_)
            rw [emptyB, h1, h2, h3, h4]; rfl
          · (refine xG ?_)
            refine wD (Ends.plain (.inr rfl) rfl ?_)
            rw [emptyB, h1, h2, h3, h4]; rfl
        · (refine xG ?_)
          refine wD (Ends.plain (.inr rfl) rfl ?_)
          rw [emptyB, h1, h2, h3]; rfl
      · (refine xG ?_)
        refine wD (Ends.plain (.inr rfl) rfl ?_)
        rw [emptyB, h1, h2]; rfl
    · (refine xG ?_)
      refine wD (Ends.plain (.inr rfl) rfl ?_)
      rw [emptyB, h1]; rfl
end Go.Proofs.YtnpkdoggfnlapaaGreatDoor
namespace Go.Proofs.YtnpkdoggfnlapaaGreatDoor
set_option maxRecDepth 100000
open Go.Sx
def idxG {E : Type} (q : E → Bool) (l : List E) : Int := if l.any q = true then ((l.findIdx q : Nat) : Int) else -1
theorem idxG_none {E : Type} {q : E → Bool} {l : List E} (h : l.any q = false) : idxG q l = -1 := by rw [idxG, if_neg (by rw [h]; simp)]
theorem idxG_at {E : Type} [Inhabited E] {q : E → Bool} {l : List E} {i : Nat} (hi : i < l.length) (h : (l.take i).any q = false) (hq : q (l.getD i default) = true) : idxG q l = (i : Int) := by
  have hm : l.getD i default ∈ l := by rw [List.getD_eq_getElem?_getD, List.getElem?_eq_getElem hi]; exact List.getElem_mem hi
  have h1 : l.any q = true := List.any_eq_true.2 ⟨_, hm, hq⟩
  rw [idxG, if_pos h1]
  congr 1
  refine (List.findIdx_eq hi).2 ⟨?_, fun j hj => ?_⟩
  · rw [List.getD_eq_getElem?_getD, List.getElem?_eq_getElem hi] at hq; exact hq
  · have : l[j] ∈ l.take i := by rw [List.mem_take_iff_getElem]; exact ⟨j, by omega, rfl⟩
    have := List.any_eq_false.1 h _ this
    simpa using this
theorem idxG_ge {E : Type} (q : E → Bool) (l : List E) : decide ((0 : Int) ≤ idxG q l) = l.any q := by
  unfold idxG
  cases h : l.any q with
  | true => rw [if_pos rfl]; simp
  | false => rw [if_neg (by simp)]; rfl
theorem any_take_succ' {E : Type} [Inhabited E] {p : E → Bool} {l : List E} {i : Nat} (hi : i < l.length) : (l.take (i + 1)).any p = ((l.take i).any p || p (l.getD i default)) := by
  rw [List.take_add_one, List.any_append]
  have : l[i]?.toList = [l.getD i default] := by rw [List.getElem?_eq_getElem hi, List.getD_eq_getElem?_getD, List.getElem?_eq_getElem hi]; rfl
  rw [this]; simp
def intsF (l : List Int) : Nat → List Value := fun i => [.int .i64 (l.getD i 0)]
def eqH (a x : H8) : Bool := decide (a = x)
theorem indexH_can (a : H8) (l : List H8) (hl : l.length ≤ 1000000000) : Reads Tryz.prog 194 [.row 8 l.length (keysF l), .plain a.x] [] (XV.int .i64 (idxG (eqH a) l)) := by
  refine Reads.of Tryz.T_ok Tryz.func194 rfl _ _ _ rfl rfl (fun C hC => ?_)
  (replace hC : C.n0 = 2 := hC; change Tri _ _ _ ⟨_, _, 2⟩ _)
  (refine Tri.cut 1 Tryz.mixed Tryz.T_ok ?_; refine xZ ?_)
  refine wD <| cutG <| Tri.seq ?_
  (refine Tri.cut 1 Tryz.mixed Tryz.T_ok ?_; refine xZ ?_)
  refine wD <| cutG <| Tri.block ?_
  refine Tri.loop (α := { i : Nat // i ≤ l.length ∧ (l.take i).any (eqH a) = false }) (fun i => ⟨[some (XV.sv (.slc 0 8 0 l.length)), none, none, some (XV.sv (.ptr 2 0 0 0)), none, none, none, some (XV.int .i64 l.length), some (XV.int .i64 i.1)] ++ List.replicate 10 none, [(0, .ro 8 l.length (keysF l)), (2, .cells 29 (a.cells.map .raw))], 3⟩) (fun i => l.length - i.1) ⟨0, Nat.zero_le _, by simp⟩ ?_ ?_
  · ((try dsimp only); refine Ent.renC [0, 1, 2] hC ?_ ?_ <;> repeat' (first | exact trivial | exact rfl | exact ⟨_, rfl, rfl, rfl, Nat.le_refl _, fun _ _ => rfl⟩ | exact ⟨_, rfl, rfl, rfl, fun _ _ => rfl⟩ | exact ⟨_, rfl, rfl, rfl⟩ | exact ⟨_, rfl, rfl⟩ | refine ⟨_, rfl, rfl, rfl, by omega, fun k hk => ?_⟩ | refine ⟨?_, ?_⟩ | fail))
  rintro ⟨i, hi, ha⟩
  dsimp only
  (refine Tri.cut 2 Tryz.mixed Tryz.T_ok ?_; refine xZ ?_)
  refine wC (fun h1 => ?_) (fun h1 => ?_)
  · (refine xG ?_)
    have h1' : i < l.length := xW
    have hs := any_take_succ' (p := eqH a) h1'
    have hw : IntKind.i64.wrap ((i : Int) + 1) = ((i + 1 : Nat) : Int) := xW
    refine wD <| cutG <| Tri.seq <| Tri.block <| Tri.of Tryz.mixed Tryz.T_ok ?_
    (refine xB ?_)
    (repeat (refine wN ?_ ?_; exact xW; refine xG ?_))
    simp only [Nat.zero_add, Int.toNat_natCast]
    (refine wP _ _ (eq_op hashE rfl a (l.getD i default) rfl rfl) ?_; refine xZ ?_)
    refine wC (fun h2 => ?_) (fun h2 => ?_)
    · (refine xG ?_)
      refine wD <| blockR <| cutR <| loopR <| blockR <| cutR <| Ends.plain (.inr rfl) rfl ?_
      rw [idxG_at h1' ha h2]
    · (refine xG ?_)
      refine wD <| blockN <| cutG <| Tri.of Tryz.mixed Tryz.T_ok ?_
      (refine xB ?_)
      refine wD <| loopN ⟨⟨i + 1, h1', by rw [hs, ha, Bool.false_or]; exact h2⟩, by dsimp only; omega, ?_⟩
      rw [hw]
      ((try dsimp only); refine Ent.renC [0, 1, 2] hC ?_ ?_ <;> repeat' (first | exact trivial | exact rfl | exact ⟨_, rfl, rfl, rfl, Nat.le_refl _, fun _ _ => rfl⟩ | exact ⟨_, rfl, rfl, rfl, fun _ _ => rfl⟩ | exact ⟨_, rfl, rfl, rfl⟩ | exact ⟨_, rfl, rfl⟩ | refine ⟨_, rfl, rfl, rfl, by omega, fun k hk => ?_⟩ | refine ⟨?_, ?_⟩ | fail))
  · (refine xG ?_)
    have h1' : i = l.length := xW
    subst h1'
    rw [List.take_length] at ha
    refine wD <| cutE <| loopX <| blockX <| cutG <| Tri.of Tryz.mixed Tryz.T_ok ?_
    (refine xB ?_)
    exact wD (Ends.plain (.inr rfl) rfl (by rw [idxG_none ha]))
theorem containsH_can (a : H8) (l : List H8) (hl : l.length ≤ 1000000000) : Reads Tryz.prog 160 [.row 8 l.length (keysF l), .plain a.x] [] (XV.bool (l.any (eqH a))) := by
  refine Reads.of Tryz.T_ok Tryz.func160 rfl _ _ _ rfl rfl (fun C hC => ?_)
  (replace hC : C.n0 = 2 := hC; change Tri _ _ _ ⟨_, _, 2⟩ _)
  refine Tri.of Tryz.mixed Tryz.T_ok ?_
  (refine xB ?_)
  (apply wP; exact (call_op rfl (entersB_of Tryz.func194 (by kernel_rfl)) rfl ((indexH_can a l hl).at [0] ⟨lend_ro0 rfl rfl, lend_plain rfl, trivial⟩ trivial)); refine xZ ?_)
  exact wD (Ends.plain (.inr rfl) rfl (by rw [← idxG_ge]))
def keyAt (l : List H8) (i : Nat) : Bool := !(zeroB (l.getD i default)) && !((l.take i).any (eqH (l.getD i default)))
def keysOK (l : List H8) : Bool := (List.range l.length).all (keyAt l)
def parN (p : ParM) : Bool := !(decide ((p.keys.length : Int) < 1)) && (!(decide (5 < (p.keys.length : Int))) && (!(decide (p.need < 1)) && !(decide ((p.keys.length : Int) < p.need))))
def parT (p : ParM) : Bool := decide (2 ≤ p.len) && (decide (p.len ≤ 64) && (decide (1 ≤ p.win) && decide (p.win ≤ p.len)))
def parB (p : ParM) : Bool := parN p && (keysOK p.keys && parT p)
def parV (p : ParM) : List SV := .raw (.int .i64 p.len) :: .raw (.int .i64 p.win) :: .raw (.int .i64 p.need) :: [.slc 0 8 0 p.keys.length]
def qmayM (p : ParM) : Mem := [(0, .ro 8 p.keys.length (keysF p.keys)), (1, .cells 40 (parV p))]
set_option maxHeartbeats 2000000 in
theorem qmay_can (p : ParM) (hl : p.keys.length ≤ 1000000000) : Reads Tryz.prog 116 [.box p.ac] [] (XV.bool (parB p)) := by
  refine Reads.of Tryz.T_ok Tryz.func116 rfl _ _ _ rfl rfl (fun C hC => ?_)
  (replace hC : C.n0 = 1 := hC; change Tri _ _ _ ⟨_, _, 1⟩ _)
  (refine Tri.cut 3 Tryz.mixed Tryz.T_ok ?_; refine xZ ?_)
  have no : parN p = false → XV.bool false = XV.bool (parB p) := fun h => by rw [parB, h, Bool.false_and]
  refine wC (fun h1 => ?_) (fun h1 => ?_)
  · (refine xG ?_)
    exact wD <| cutR <| Ends.plain (.inr rfl) rfl (no (by rw [parN, h1]; rfl))
  (refine xG ?_)
  refine wC (fun h2 => ?_) (fun h2 => ?_)
  · (refine xG ?_)
    exact wD <| cutR <| Ends.plain (.inr rfl) rfl (no (by rw [parN, h1, h2]; rfl))
  (refine xG ?_)
  refine wC (fun h3 => ?_) (fun h3 => ?_)
  · (refine xG ?_)
    exact wD <| cutR <| Ends.plain (.inr rfl) rfl (no (by rw [parN, h1, h2, h3]; rfl))
  (refine xG ?_)
  refine wC (fun h4 => ?_) (fun h4 => ?_)
  · (refine xG ?_)
    exact wD <| cutR <| Ends.plain (.inr rfl) rfl (no (by rw [parN, h1, h2, h3, h4]; rfl))
  have hN : parN p = true := by rw [parN, h1, h2, h3, h4]; rfl
  (refine xG ?_)
  refine wD <| cutG <| Tri.seq ?_
  (refine Tri.cut 1 Tryz.mixed Tryz.T_ok ?_; refine xZ ?_)
  refine wD <| cutG <| Tri.block ?_
  refine Tri.loop (α := { i : Nat // i ≤ p.keys.length ∧ (List.range i).all (keyAt p.keys) = true }) (fun i => ⟨[none, some (XV.sv (.ptr 1 0 0 0))] ++ List.replicate 25 none ++ [some (XV.sv (.slc 0 8 0 p.keys.length)), some (XV.int .i64 p.keys.length), some (XV.int .i64 i.1)] ++ List.replicate 35 none, qmayM p, 2⟩) (fun i => p.keys.length - i.1) ⟨0, Nat.zero_le _, rfl⟩ ?_ ?_
  · unfold qmayM
    ((try dsimp only); refine Ent.renC [0, 1] hC ?_ ?_ <;> repeat' (first | exact trivial | exact rfl | exact ⟨_, rfl, rfl, rfl, Nat.le_refl _, fun _ _ => rfl⟩ | exact ⟨_, rfl, rfl, rfl, fun _ _ => rfl⟩ | exact ⟨_, rfl, rfl, rfl⟩ | exact ⟨_, rfl, rfl⟩ | refine ⟨_, rfl, rfl, rfl, by omega, fun k hk => ?_⟩ | refine ⟨?_, ?_⟩ | fail))
  rintro ⟨i, hi, ha⟩
  dsimp only
  unfold qmayM
  (refine Tri.cut 2 Tryz.mixed Tryz.T_ok ?_; refine xZ ?_)
  refine wC (fun h5 => ?_) (fun h5 => ?_)
  · (refine xG ?_)
    have h1' : i < p.keys.length := xW
    have hs := range_all_succ (keyAt p.keys) i
    have hw : IntKind.i64.wrap ((i : Int) + 1) = ((i + 1 : Nat) : Int) := xW
    have hlen : (p.keys.take i).length = i := by rw [List.length_take]; omega
    have bad : keyAt p.keys i = false → parB p = false := fun h => by rw [parB, hN, keysOK, range_all_false h1' h]; rfl
    refine wD <| cutG <| Tri.seq <| Tri.block <| Tri.of Tryz.mixed Tryz.T_ok ?_
    (refine xB ?_)
    (repeat (refine wN ?_ ?_; exact xW; refine xG ?_))
    simp only [Nat.zero_add, Int.toNat_natCast]
    (apply wP; exact (call_op rfl (entersB_of Tryz.func145 (by kernel_rfl)) rfl ((zero_can (p.keys.getD i default)).at [] ⟨lend_plain rfl, trivial⟩ trivial)); refine xZ ?_)
    refine wC (fun h2 => ?_) (fun h2 => ?_)
    · (refine xG ?_)
      refine wD <| blockR <| cutR <| loopR <| blockR <| cutR <| Ends.plain (.inr rfl) rfl ?_
      rw [bad (by rw [keyAt, h2]; rfl)]
    (refine xG ?_)
    (repeat (refine wN ?_ ?_; exact xW; refine xG ?_))
    simp only [Nat.zero_add, Int.toNat_natCast]
    (apply wP; exact (call_op rfl (entersB_of Tryz.func160 (by kernel_rfl)) rfl ((containsH_can (p.keys.getD i default) (p.keys.take i) (by rw [hlen]; omega)).at [0] ⟨by rw [hlen]; exact lend_ro rfl rfl (by omega) (fun j hj => by rw [Nat.zero_add]; exact congrArg H8.cells (getD_take hj)), lend_plain rfl, trivial⟩ trivial)); refine xZ ?_)
    refine wC (fun h3 => ?_) (fun h3 => ?_)
    · (refine xG ?_)
      refine wD <| blockR <| cutR <| loopR <| blockR <| cutR <| Ends.plain (.inr rfl) rfl ?_
      rw [bad (by rw [keyAt, h2, h3]; rfl)]
    · (refine xG ?_)
      refine wD <| blockN <| cutG <| Tri.of Tryz.mixed Tryz.T_ok ?_
      (refine xB ?_)
      refine wD <| loopN ⟨⟨i + 1, h1', by rw [hs, ha, keyAt, h2, h3]; rfl⟩, by dsimp only; omega, ?_⟩
      rw [hw]
      ((try dsimp only); refine Ent.renC [0, 1] hC ?_ ?_ <;> repeat' (first | exact trivial | exact rfl | exact ⟨_, rfl, rfl, rfl, Nat.le_refl _, fun _ _ => rfl⟩ | exact ⟨_, rfl, rfl, rfl, fun _ _ => rfl⟩ | exact ⟨_, rfl, rfl, rfl⟩ | exact ⟨_, rfl, rfl⟩ | refine ⟨_, rfl, rfl, rfl, by omega, fun k hk => ?_⟩ | refine ⟨?_, ?_⟩ | fail))
  · (refine xG ?_)
    have h1' : i = p.keys.length := xW
    subst h1'
    have hk : parB p = parT p := by rw [parB, hN, keysOK, ha, Bool.true_and, Bool.true_and]
    refine wD <| cutE <| loopX <| blockX <| cutG <| Tri.of Tryz.mixed Tryz.T_ok ?_
    rw [hk]
    (refine xB ?_)
    refine wC (fun k1 => ?_) (fun k1 => ?_)
    · (refine xG ?_)
      refine wC (fun k2 => ?_) (fun k2 => ?_)
      · (refine xG ?_)
        refine wC (fun k3 => ?_) (fun k3 => ?_)
        · (refine xG ?_)
          exact wD (Ends.plain (.inr rfl) rfl (by rw [parT, k1, k2, k3]; rfl))
        · (refine xG ?_)
          exact wD (Ends.plain (.inr rfl) rfl (by rw [parT, k1, k2, k3]; rfl))
      · (refine xG ?_)
        exact wD (Ends.plain (.inr rfl) rfl (by rw [parT, k1, k2]; rfl))
    · (refine xG ?_)
      exact wD (Ends.plain (.inr rfl) rfl (by rw [parT, k1]; rfl))
end Go.Proofs.YtnpkdoggfnlapaaGreatDoor
namespace Go.Proofs.YtnpkdoggfnlapaaGreatDoor
set_option maxRecDepth 100000
open Go.Sx
structure SideM where
  par : ParM
  made : Int
  bal : Int
  fwd : Int
  mat : Int
  clm : Int
  ceased : Bool
  hgt : Int
  root : H8
  pend : Bool
  cert : CertM
  used : List Int
def side0 : SideM := ⟨par0, 0, 0, 0, 0, 0, false, 0, zeroH, false, cert0, []⟩
instance : Inhabited SideM := ⟨side0⟩
def SideM.ac (x : SideM) : List AC := x.par.ac ++ (iC x.made :: iC x.bal :: iC x.fwd :: iC x.mat :: iC x.clm :: .raw (.bool x.ceased) :: iC x.hgt :: (rC x.root.cells ++ (.raw (.bool x.pend) :: (x.cert.ac ++ [.row 1 x.used.length (intsF x.used)]))))
def sideCells (x : SideM) (k o s u : SV) : List SV := parCells x.par k ++ (.raw (.int .i64 x.made) :: .raw (.int .i64 x.bal) :: .raw (.int .i64 x.fwd) :: .raw (.int .i64 x.mat) :: .raw (.int .i64 x.clm) :: .raw (.bool x.ceased) :: .raw (.int .i64 x.hgt) :: (x.root.cells.map .raw ++ (.raw (.bool x.pend) :: (certCells x.cert o s ++ [u]))))
theorem lend_side {M : Mem} {rd : List Nat} {x : SideM} {k o s u : SV} (h1 : Lends M rd (.one k) (.row 8 x.par.keys.length (keysF x.par.keys))) (h2 : Lends M rd (.one o) (.row 9 x.cert.outs.length (outsF x.cert.outs))) (h3 : Lends M rd (.one s) (.row 282 x.cert.sigs.length (sgdsF x.cert.sigs)))
    (h4 : Lends M rd (.one u) (.row 1 x.used.length (intsF x.used))) : Lends M rd (.agg (sideCells x k o s u)) (.box x.ac) := by
  refine lend_box ⟨rfl, rfl, rfl, h1, rfl, rfl, rfl, rfl, rfl, rfl, rfl, ?_⟩
  refine LendsC.raws ?_ _
  refine ⟨rfl, ?_⟩
  exact lend_cert_cells h2 h3 ⟨h4, trivial⟩
structure SideM.Sized (x : SideM) : Prop where
  keys : x.par.keys.length ≤ 1000000
  outs : x.cert.outs.length ≤ 1000000
  sigs : x.cert.sigs.length ≤ 1000000
  used : x.used.length ≤ 1000000
theorem SideM.ac_len (x : SideM) : x.ac.length = 42 := rfl
theorem SideM.ac_one (x : SideM) : x.ac.all AC.one = true := rfl
theorem boxed_append {p : Nat} {l : List Chunk} : ∀ {a : List SV} {b : List AC} {a' : List SV} {b' : List AC}, Boxed p l a b → Boxed p l a' b' → Boxed p l (a ++ a') (b ++ b')
  | [], [], _, _, _, h => h
  | _ :: _, .raw _ :: _, _, _, ⟨h1, h2⟩, h => ⟨h1, boxed_append h2 h⟩
  | _ :: _, .row _ _ _ :: _, _, _, ⟨h1, h2⟩, h => ⟨h1, boxed_append h2 h⟩
  | [], _ :: _, _, _, h, _ => h.elim
  | _ :: _, [], _, _, h, _ => h.elim
theorem boxed_raws {p : Nat} {l : List Chunk} : ∀ vs : List Value, Boxed p l (vs.map .raw) (rC vs)
  | [] => trivial
  | _ :: vs => ⟨rfl, boxed_raws vs⟩
theorem boxed_side {p : Nat} {l : List Chunk} {x : SideM} {k o s u : SV} (hk : Boxed p l [k] [.row 8 x.par.keys.length (keysF x.par.keys)]) (ho : Boxed p l [o] [.row 9 x.cert.outs.length (outsF x.cert.outs)]) (hs : Boxed p l [s] [.row 282 x.cert.sigs.length (sgdsF x.cert.sigs)])
    (hu : Boxed p l [u] [.row 1 x.used.length (intsF x.used)]) : Boxed p l (sideCells x k o s u) x.ac := by
  refine ⟨rfl, rfl, rfl, hk.1, rfl, rfl, rfl, rfl, rfl, rfl, rfl, ?_⟩
  refine boxed_append (boxed_raws _) ?_
  refine ⟨rfl, rfl, rfl, rfl, ?_⟩
  show Boxed p l ((x.cert.fin.cells.map .raw ++ (x.cert.root.cells.map .raw ++ [o, s])) ++ [u]) ((rC x.cert.fin.cells ++ (rC x.cert.root.cells ++ [AC.row 9 x.cert.outs.length (outsF x.cert.outs), .row 282 x.cert.sigs.length (sgdsF x.cert.sigs)])) ++ [AC.row 1 x.used.length (intsF x.used)])
  rw [List.append_assoc, List.append_assoc, List.append_assoc, List.append_assoc]
  exact boxed_append (boxed_raws _) (boxed_append (boxed_raws _) ⟨ho.1, hs.1, hu.1, trivial⟩)
end Go.Proofs.YtnpkdoggfnlapaaGreatDoor
