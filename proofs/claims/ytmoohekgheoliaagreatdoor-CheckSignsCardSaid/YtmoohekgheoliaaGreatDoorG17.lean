/- Parts Ho Ta Tb. -/
import Derived.Test.YtmoohekgheoliaaGreatDoorG16
import Derived.Test.YtmoohekgheoliaaGreatDoorG11
set_option linter.unusedSimpArgs false
set_option linter.unusedVariables false
namespace Go.Proofs.YtmoohekgheoliaaGreatDoor
set_option maxRecDepth 100000
open Go.Sx
structure SigM where
  idx : Int
  opn : Nat → H8
  shut : Nat → H8
  path : Nat → H8
def SigM.cells (s : SigM) : List Value := .int .i64 s.idx :: (tabF (hashF s.opn) 0 16 ++ tabF (hashF s.shut) 0 16 ++ tabF (hashF s.path) 0 3)
def SigM.x (s : SigM) : CV := .agg (s.cells.map .raw)
theorem allB_congr {mk mk' : Nat → Nat → H8} (h : ∀ i, i < 16 → ∀ b, b < 2 → mk i b = mk' i b) : ∀ n, n ≤ 16 → allB mk n = allB mk' n
  | 0, _ => rfl
  | n + 1, hn => by simp only [allB]; rw [allB_congr h n (by omega), h n (by omega) 0 (by decide), h n (by omega) 1 (by decide)]
theorem pubH_congr {mk mk' : Nat → Nat → H8} (h : ∀ i, i < 16 → ∀ b, b < 2 → mk i b = mk' i b) : pubH mk = pubH mk' := by
  unfold pubH; rw [allB_congr h 16 (Nat.le_refl _)]
def pubS (seed : H8) (k : Nat) : H8 := pubH fun i b => markH (secretH seed (k : Int) (i : Int) (b : Int))
theorem pub_signed (seed : H8) (k : Nat) (m : H8) : pubH (markOf m (openS seed (k : Int) m) (shutS seed (k : Int) m)) = pubS seed k := by
  refine pubH_congr fun i _ b hb => ?_
  unfold markOf openS shutS
  have h2 := bitN_cases m i
  split
  · rename_i e; rw [e]
  · have : b = 1 - bitN m i := by omega
    rw [this]
theorem hash_next {g : Nat → H8} {f : Nat → List Value} {L k : Nat} (hf : f 0 = (g L).cells) (hk : k < L + 1) : joinF (hashF g) L f k = hashF g k := by
  simp only [joinF, nblt]
  by_cases h : k < L
  · simp [h]
  · obtain rfl : k = L := by omega
    simp [hf, hashF]
def pubsSt (seed : H8) (k : Nat) : St :=
  ⟨[none, some (XV.sv (.ptr 1 0 0 0)), none, some (XV.sv (.slc 2 8 0 k)), some (XV.int .i64 k)] ++ List.replicate 21 none,
   [(1, .cells 39 (seed.cells.map .raw)), (2, .vec 39 8 k (hashF (pubS seed)))], 3⟩
set_option maxHeartbeats 2000000 in
theorem publics_can (seed : H8) : Makes Tryz.prog 51 [.plain seed.x] [] (XV.sv (.slc 0 8 0 8)) (.vec 39 8 8 (hashF (pubS seed))) := by
  refine Makes.of Tryz.T_ok Tryz.func51 rfl _ _ _ _ rfl rfl rfl rfl 2 (fun C hC => ?_)
  (replace hC : C.n0 = 1 := hC; change Tri _ _ _ ⟨_, _, 1⟩ _)
  (refine Tri.cut 2 Tryz.mixed Tryz.T_ok ?_; ((conv => arg 5; whnf); repeat (refine xS ?_; conv => arg 5; whnf)))
  refine wD <| cutG <| Tri.ent (Ent.nils (t := 3) rfl 39 8) <| Tri.seq ?_
  (refine Tri.cut 1 Tryz.mixed Tryz.T_ok ?_; ((conv => arg 5; whnf); repeat (refine xS ?_; conv => arg 5; whnf)))
  refine wD <| cutG <| Tri.block ?_
  refine Tri.loop (α := { k : Nat // k ≤ 8 }) (fun k => pubsSt seed k.1) (fun k => 8 - k.1) ⟨0, Nat.zero_le _⟩ ?_ ?_
  · ((try dsimp only); refine Ent.renC [0, 1, 4] hC ?_ ?_ <;> repeat' (first | exact trivial | exact rfl | exact ⟨_, rfl, rfl, rfl, Nat.le_refl _, fun _ _ => rfl⟩ | exact ⟨_, rfl, rfl, rfl, fun _ _ => rfl⟩ | exact ⟨_, rfl, rfl, rfl⟩ | exact ⟨_, rfl, rfl⟩ | refine ⟨_, rfl, rfl, rfl, by omega, fun k hk => ?_⟩ | refine ⟨?_, ?_⟩ | fail))
    exact absurd hk (Nat.not_lt_zero _)
  rintro ⟨k, hk⟩
  dsimp only
  (refine Tri.cut 1 Tryz.mixed Tryz.T_ok ?_; ((conv => arg 5; whnf); repeat (refine xS ?_; conv => arg 5; whnf)))
  refine wC (fun h1 => ?_) (fun h1 => ?_)
  · (refine wGo ?_; ((conv => arg 5; whnf); repeat (refine xS ?_; conv => arg 5; whnf)))
    have h1' : k < 8 := (by (try simp only [ww] at *); omega)
    have hw : IntKind.i64.wrap ((k : Int) + 1) = ((k + 1 : Nat) : Int) := (by (try simp only [ww] at *); omega)
    refine wD <| cutG <| Tri.seq <| Tri.block <| Tri.of Tryz.mixed Tryz.T_ok ?_
    (refine wBegin ?_; ((conv => arg 5; whnf); repeat (refine xS ?_; conv => arg 5; whnf)))
    (apply wP; exact (call_op rfl (entersB_of Tryz.func49 (by kernel_rfl)) rfl ((sign_can seed (k : Int) zeroH).at [] ⟨lend_plain rfl, lend_plain rfl, lend_plain rfl, trivial⟩ trivial)); ((conv => arg 5; whnf); repeat (refine xS ?_; conv => arg 5; whnf)))
    (apply wP; exact (call_op rfl (entersB_of Tryz.func84 (by kernel_rfl)) rfl ((rpublic_can zeroH (openS seed (k : Int) zeroH) (shutS seed (k : Int) zeroH)).at [] ⟨lend_plain rfl, lend_plain rfl, lend_plain rfl, trivial⟩ trivial)); ((conv => arg 5; whnf); repeat (refine xS ?_; conv => arg 5; whnf)))
    (refine wP _ _ (append_op Tryz.T_ok rfl rfl rfl rfl rfl [2, 21] (old_vec rfl rfl (Nat.le_refl _) rfl) (new_vec (lo := 0) rfl rfl (Nat.le_refl _) rfl) rfl (lt1 rfl) (by simp only [maxLen]; omega) (by dsimp only; omega)) ?_; ((conv => arg 5; whnf); repeat (refine xS ?_; conv => arg 5; whnf)))
    refine wD <| blockN <| cutG <| Tri.of Tryz.mixed Tryz.T_ok ?_
    (refine wBegin ?_; ((conv => arg 5; whnf); repeat (refine xS ?_; conv => arg 5; whnf)))
    refine wD <| loopN ⟨⟨k + 1, h1'⟩, by dsimp only; omega, ?_⟩
    rw [hw]
    ((try dsimp only); refine Ent.renC [0, 1, 22] hC ?_ ?_ <;> repeat' (first | exact trivial | exact rfl | exact ⟨_, rfl, rfl, rfl, Nat.le_refl _, fun _ _ => rfl⟩ | exact ⟨_, rfl, rfl, rfl, fun _ _ => rfl⟩ | exact ⟨_, rfl, rfl, rfl⟩ | exact ⟨_, rfl, rfl⟩ | refine ⟨_, rfl, rfl, rfl, by omega, fun k hk => ?_⟩ | refine ⟨?_, ?_⟩ | fail))
    rename_i j hj
    exact hash_next (g := pubS seed) (L := j) (congrArg H8.cells (pub_signed seed j zeroH)) hk
  · (refine wGo ?_; ((conv => arg 5; whnf); repeat (refine xS ?_; conv => arg 5; whnf)))
    have h1' : k = 8 := (by (try simp only [ww] at *); omega)
    subst h1'
    refine wD <| cutE <| loopX <| blockX <| cutG <| Tri.of Tryz.mixed Tryz.T_ok ?_
    (refine wBegin ?_; ((conv => arg 5; whnf); repeat (refine xS ?_; conv => arg 5; whnf)))
    exact wD (Ends.made (.inr rfl) (Ent.refl _) rfl (Nat.le_succ _) rfl)
def treeH (seed : H8) : H8 := rootN (pubS seed) 8
theorem tree_can (seed : H8) : Reads Tryz.prog 48 [.plain seed.x] [] (hashX (treeH seed)) := by
  refine Reads.of Tryz.T_ok Tryz.func48 rfl _ _ _ rfl rfl (fun C hC => ?_)
  (replace hC : C.n0 = 1 := hC; change Tri _ _ _ ⟨_, _, 1⟩ _)
  refine Tri.of Tryz.mixed Tryz.T_ok ?_
  (refine wBegin ?_; ((conv => arg 5; whnf); repeat (refine xS ?_; conv => arg 5; whnf)))
  (apply wP; exact (call_op rfl (entersB_of Tryz.func51 (by kernel_rfl)) rfl ((publics_can seed).at [] ⟨lend_plain rfl, trivial⟩ trivial)); ((conv => arg 5; whnf); repeat (refine xS ?_; conv => arg 5; whnf)))
  (apply wP; exact (call_op rfl (entersB_of Tryz.func89 (by kernel_rfl)) rfl ((root_can 8 (by decide) (by decide) (pubS seed)).at [4] ⟨lend_vec (lo := 0) rfl rfl (by decide) (fun i _ => by rw [Nat.zero_add]), trivial⟩ trivial)); ((conv => arg 5; whnf); repeat (refine xS ?_; conv => arg 5; whnf)))
  exact wD (Ends.plain (.inr rfl) rfl rfl)
def signM (seed : H8) (i : Nat) (m : H8) : SigM := ⟨(i : Int), openS seed (i : Int) m, shutS seed (i : Int) m, provH (pubS seed) 8 i⟩
theorem turns8 {i : Nat} (hi : i < 8) : (turnsN i 8).length = 3 := by
  have h : ∀ i, i < 8 → (turnsN i 8).length = 3 := by decide
  exact h i hi
set_option maxHeartbeats 4000000 in
theorem signTree_can (seed : H8) (i : Nat) (m : H8) (hi : i < 8) : Reads Tryz.prog 27 [.plain seed.x, .plain (.one (.raw (.int .i64 i))), .plain m.x] [] (.tup [(signM seed i m).x, .one (.raw (.bool true))]) := by
  refine Reads.of Tryz.T_ok Tryz.func27 rfl _ _ _ rfl (by simp only [XV.ok, List.all_cons, List.all_nil, Bool.and_true, Bool.and_eq_true]; exact ⟨raws_ok _ _, rfl⟩) (fun C hC => ?_)
  (replace hC : C.n0 = 3 := hC; change Tri _ _ _ ⟨_, _, 3⟩ _)
  have h3 := turns8 hi
  refine Tri.of Tryz.mixed Tryz.T_ok ?_
  (refine wBegin ?_; ((conv => arg 5; whnf); repeat (refine xS ?_; conv => arg 5; whnf)))
  (refine wFd ?_ ?_; (first | refine decide_eq_false ?_ | rw [beq_eq_false_iff_ne] | rw [bne_eq_false_iff_eq]); exact (by (try simp only [ww] at *); omega); refine wGo ?_; ((conv => arg 5; whnf); repeat (refine xS ?_; conv => arg 5; whnf)))
  (refine wFd ?_ ?_; (first | refine decide_eq_false ?_ | rw [beq_eq_false_iff_ne] | rw [bne_eq_false_iff_eq]); exact (by (try simp only [ww] at *); omega); refine wGo ?_; ((conv => arg 5; whnf); repeat (refine xS ?_; conv => arg 5; whnf)))
  (apply wP; exact (call_op rfl (entersB_of Tryz.func49 (by kernel_rfl)) rfl ((sign_can seed (i : Int) m).at [] ⟨lend_plain rfl, lend_plain rfl, lend_plain rfl, trivial⟩ trivial)); ((conv => arg 5; whnf); repeat (refine xS ?_; conv => arg 5; whnf)))
  (apply wP; exact (call_op rfl (entersB_of Tryz.func51 (by kernel_rfl)) rfl ((publics_can seed).at [] ⟨lend_plain rfl, trivial⟩ trivial)); ((conv => arg 5; whnf); repeat (refine xS ?_; conv => arg 5; whnf)))
  (apply wP; exact (call_op rfl (entersB_of Tryz.func50 (by kernel_rfl)) rfl ((prove_can 8 (by decide) (pubS seed) i hi).at [29] ⟨lend_vec (lo := 0) rfl rfl (by decide) (fun i _ => by rw [Nat.zero_add]), lend_plain rfl, trivial⟩ trivial)); ((conv => arg 5; whnf); repeat (refine xS ?_; conv => arg 5; whnf)))
  rw [h3]
  (refine wP _ _ (copy_op Tryz.T_ok (k := 3) (m := 3) (g := hashF (provH (pubS seed) 8 i)) [15, 31] rfl rfl rfl rfl rfl (by decide) rfl rfl (new_vec (lo := 0) rfl rfl (Nat.le_refl _) rfl) rfl (by decide) (Nat.le_of_ble_eq_true rfl) (fun _ _ => rfl) rfl) ?_; ((conv => arg 5; whnf); repeat (refine xS ?_; conv => arg 5; whnf)))
  exact wD (Ends.plain (.inr rfl) rfl rfl)
def chkT (root m : H8) (s : SigM) : Bool := decide (0 ≤ s.idx) && (decide (s.idx < 8) && leads root (pubH (markOf m s.opn s.shut)) s.idx.toNat 8 s.path 3)
theorem sign_believed (seed : H8) (i : Nat) (hi : i < 8) (m : H8) : chkT (treeH seed) m (signM seed i m) = true := by
  unfold chkT signM
  have h1 : (0 : Int) ≤ (i : Int) := Int.natCast_nonneg _
  have h2 : (i : Int) < 8 := by omega
  simp only [h1, h2, decide_true, Bool.true_and, Int.toNat_natCast]
  refine leads_true (pubS seed) hi (pub_signed seed i m) rfl ?_ (fun k _ => rfl)
  rw [proveN_length, turns8 hi]
set_option maxHeartbeats 2000000 in
theorem kcheck_can (root m : H8) (s : SigM) : Reads Tryz.prog 74 [.plain root.x, .plain m.x, .plain s.x] [stepsP] (XV.bool (chkT root m s)) := by
  refine Reads.of Tryz.T_ok Tryz.func74 rfl _ _ _ (by simp only [canX, AD.plain, List.all_cons, List.all_nil, Bool.and_true, Bool.and_eq_true]; exact ⟨rfl, rfl, raws_ok _ _⟩) rfl (fun C hC => ?_)
  (replace hC : C.n0 = 4 := hC; change Tri _ _ _ ⟨_, _, 4⟩ _)
  refine Tri.of Tryz.mixed Tryz.T_ok ?_
  (refine wBegin ?_; ((conv => arg 5; whnf); repeat (refine xS ?_; conv => arg 5; whnf)))
  refine wC (fun h1 => ?_) (fun h1 => ?_)
  · have h1' : 0 ≤ s.idx := of_decide_eq_true h1
    (refine wGo ?_; ((conv => arg 5; whnf); repeat (refine xS ?_; conv => arg 5; whnf)))
    refine wC (fun h2 => ?_) (fun h2 => ?_)
    · have h2' : s.idx < 8 := of_decide_eq_true h2
      have hn : ((s.idx.toNat : Nat) : Int) = s.idx := by omega
      (refine wGo ?_; ((conv => arg 5; whnf); repeat (refine xS ?_; conv => arg 5; whnf)))
      (apply wP; exact (call_op rfl (entersB_of Tryz.func108 (by kernel_rfl)) rfl ((lpublic_can m s.opn s.shut).at [3] ⟨lend_plain rfl, lend_plain rfl, lend_plain rfl, trivial⟩ ⟨lend_ext (c := 3) rfl rfl, trivial⟩)); ((conv => arg 5; whnf); repeat (refine xS ?_; conv => arg 5; whnf)))
      (apply wP; exact (call_op rfl (entersB_of Tryz.func107 (by kernel_rfl)) rfl ((mcheck_can root (pubH (markOf m s.opn s.shut)) s.idx.toNat 8 3 s.path (by omega) (by decide) (by decide)).at [3, 6] ⟨lend_plain rfl, lend_plain rfl, by rw [hn]; exact lend_plain rfl, lend_plain rfl, lend_sla rfl rfl (fun _ _ => rfl) rfl, trivial⟩ ⟨lend_ext (c := 3) rfl rfl, trivial⟩)); ((conv => arg 5; whnf); repeat (refine xS ?_; conv => arg 5; whnf)))
      refine wD (Ends.plain (.inr rfl) rfl ?_)
      rw [chkT, h1, h2, Bool.true_and, Bool.true_and]
    · (refine wGo ?_; ((conv => arg 5; whnf); repeat (refine xS ?_; conv => arg 5; whnf)))
      refine wD (Ends.plain (.inr rfl) rfl ?_)
      rw [chkT, h2, Bool.false_and, Bool.and_false]
  · (refine wGo ?_; ((conv => arg 5; whnf); repeat (refine xS ?_; conv => arg 5; whnf)))
    refine wD (Ends.plain (.inr rfl) rfl ?_)
    rw [chkT, h1, Bool.false_and]
set_option maxHeartbeats 2000000 in
theorem checkTree_can (root m : H8) (s : SigM) : Reads Tryz.prog 43 [.plain root.x, .plain m.x, .plain s.x] [] (XV.bool (chkT root m s)) := by
  refine Reads.of Tryz.T_ok Tryz.func43 rfl _ _ _ (by simp only [canX, AD.plain, List.all_cons, List.all_nil, Bool.and_true, Bool.and_eq_true]; exact ⟨rfl, rfl, raws_ok _ _⟩) rfl (fun C hC => ?_)
  (replace hC : C.n0 = 3 := hC; change Tri _ _ _ ⟨_, _, 3⟩ _)
  refine Tri.of Tryz.mixed Tryz.T_ok ?_
  (refine wBegin ?_; ((conv => arg 5; whnf); repeat (refine xS ?_; conv => arg 5; whnf)))
  refine wC (fun h1 => ?_) (fun h1 => ?_)
  · have h1' : s.idx < 0 := of_decide_eq_true h1
    (refine wGo ?_; ((conv => arg 5; whnf); repeat (refine xS ?_; conv => arg 5; whnf)))
    refine wD (Ends.plain (.inr rfl) rfl ?_)
    rw [chkT, decide_eq_false (by omega), Bool.false_and]
  · have h1' : 0 ≤ s.idx := by have := of_decide_eq_false h1; omega
    (refine wGo ?_; ((conv => arg 5; whnf); repeat (refine xS ?_; conv => arg 5; whnf)))
    refine wC (fun h2 => ?_) (fun h2 => ?_)
    · have h2' : 8 ≤ s.idx := of_decide_eq_true h2
      (refine wGo ?_; ((conv => arg 5; whnf); repeat (refine xS ?_; conv => arg 5; whnf)))
      refine wD (Ends.plain (.inr rfl) rfl ?_)
      rw [chkT, decide_eq_false (show ¬ s.idx < 8 by omega), Bool.false_and, Bool.and_false]
    · have h2' : s.idx < 8 := by have := of_decide_eq_false h2; omega
      have hn : ((s.idx.toNat : Nat) : Int) = s.idx := by omega
      (refine wGo ?_; ((conv => arg 5; whnf); repeat (refine xS ?_; conv => arg 5; whnf)))
      (apply wP; exact (call_op rfl (entersB_of Tryz.func84 (by kernel_rfl)) rfl ((rpublic_can m s.opn s.shut).at [] ⟨lend_plain rfl, lend_plain rfl, lend_plain rfl, trivial⟩ trivial)); ((conv => arg 5; whnf); repeat (refine xS ?_; conv => arg 5; whnf)))
      (apply wP; exact (call_op rfl (entersB_of Tryz.func83 (by kernel_rfl)) rfl ((checkRow_can root (pubH (markOf m s.opn s.shut)) s.idx.toNat 8 3 s.path (by omega) (by decide) (by decide)).at [5] ⟨lend_plain rfl, lend_plain rfl, by rw [hn]; exact lend_plain rfl, lend_plain rfl, lend_sla rfl rfl (fun _ _ => rfl) rfl, trivial⟩ trivial)); ((conv => arg 5; whnf); repeat (refine xS ?_; conv => arg 5; whnf)))
      refine wD (Ends.plain (.inr rfl) rfl ?_)
      rw [chkT, decide_eq_true h1', decide_eq_true h2', Bool.true_and, Bool.true_and]
end Go.Proofs.YtmoohekgheoliaaGreatDoor
namespace Go.Proofs.YtmoohekgheoliaaGreatDoor
set_option maxRecDepth 100000
open Go.Sx
theorem lend_ro0 {M : Mem} {rd : List Nat} {c sz n : Nat} {f : Nat → List Value} (hm : M.get c = some (.ro sz n f)) (hrd : nmem c rd = true) : Lends M rd (.one (.slc c sz 0 n)) (.row sz n f) :=
  lend_ro hm hrd (Nat.le_of_eq (Nat.zero_add _)) fun i _ => by rw [Nat.zero_add]
theorem lend_vec0 {M : Mem} {rd : List Nat} {c e sz n : Nat} {f : Nat → List Value} (hm : M.get c = some (.vec e sz n f)) (hrd : nmem c rd = true) : Lends M rd (.one (.slc c sz 0 n)) (.row sz n f) :=
  lend_vec hm hrd (Nat.le_of_eq (Nat.zero_add _)) fun i _ => by rw [Nat.zero_add]
structure OutM where
  to : H8
  amt : Int64
  deriving DecidableEq, Inhabited
def OutM.cells (o : OutM) : List Value := o.to.cells ++ [i64 o.amt]
structure FwdM where
  side : Int64
  acct : Int64
  owner : H8
  amt : Int64
  deriving DecidableEq, Inhabited
def FwdM.cells (f : FwdM) : List Value := i64 f.side :: i64 f.acct :: (f.owner.cells ++ [i64 f.amt])
def sig0 : SigM := ⟨0, fun _ => zeroH, fun _ => zeroH, fun _ => zeroH⟩
structure InM where
  pt : Pt
  key : H8
  sig : SigM
def InM.cells (x : InM) : List Value := x.pt.cells ++ (x.key.cells ++ x.sig.cells)
instance : Inhabited InM := ⟨⟨default, zeroH, sig0⟩⟩
structure SgdM where
  key : Int
  sig : SigM
def SgdM.cells (x : SgdM) : List Value := .int .i64 x.key :: x.sig.cells
instance : Inhabited SgdM := ⟨⟨0, sig0⟩⟩
structure ParM where
  len : Int
  win : Int
  need : Int
  keys : List H8
structure CertM where
  side : Int
  ep : Int
  qual : Int
  fin : H8
  root : H8
  outs : List OutM
  sigs : List SgdM
structure AccM where
  owner : H8
  amt : Int
  nonce : Int
def AccM.cells (a : AccM) : List Value := a.owner.cells ++ [.int .i64 a.amt, .int .i64 a.nonce]
structure ClaimM where
  side : Int
  acct : Int
  st : AccM
  proof : Nat → H8
def ClaimM.cells (c : ClaimM) : List Value := .int .i64 c.side :: .int .i64 c.acct :: (c.st.cells ++ tabF (hashF c.proof) 0 16)
structure TxM where
  kind : Int
  height : Int
  ins : List InM
  outs : List OutM
  fwds : List FwdM
  par : ParM
  cert : CertM
  claim : ClaimM
def par0 : ParM := ⟨0, 0, 0, []⟩
def cert0 : CertM := ⟨0, 0, 0, zeroH, zeroH, [], []⟩
def claim0 : ClaimM := ⟨0, 0, ⟨zeroH, 0, 0⟩, fun _ => zeroH⟩
def rowOf {E : Type} [Inhabited E] (cells : E → List Value) (l : List E) : Nat → List Value := fun i => cells (l.getD i default)
def insF (l : List InM) := rowOf InM.cells l
def outsF (l : List OutM) := rowOf OutM.cells l
def fwdsF (l : List FwdM) := rowOf FwdM.cells l
def sgdsF (l : List SgdM) := rowOf SgdM.cells l
def keysF (l : List H8) := rowOf H8.cells l
def iC (n : Int) : AC := .raw (.int .i64 n)
def rC (l : List Value) : List AC := l.map .raw
def ParM.ac (p : ParM) : List AC := [iC p.len, iC p.win, iC p.need, .row 8 p.keys.length (keysF p.keys)]
def CertM.ac (c : CertM) : List AC := iC c.side :: iC c.ep :: iC c.qual :: (rC c.fin.cells ++ (rC c.root.cells ++ [.row 9 c.outs.length (outsF c.outs), .row 282 c.sigs.length (sgdsF c.sigs)]))
def TxM.ac (t : TxM) : List AC := iC t.kind :: iC t.height :: .row 298 t.ins.length (insF t.ins) :: .row 9 t.outs.length (outsF t.outs) :: .row 11 t.fwds.length (fwdsF t.fwds) :: (t.par.ac ++ (t.cert.ac ++ rC t.claim.cells))
def withinB (n a b : Int) : Bool := decide (a ≤ n) && decide (n ≤ b)
theorem within_can (n a b : Int) : Reads Tryz.prog 65 [.plain (.one (.raw (.int .i64 n))), .plain (.one (.raw (.int .i64 a))), .plain (.one (.raw (.int .i64 b)))] [] (XV.bool (withinB n a b)) := by
  refine Reads.of Tryz.T_ok Tryz.func65 rfl _ _ _ rfl rfl (fun C hC => ?_)
  (replace hC : C.n0 = 3 := hC; change Tri _ _ _ ⟨_, _, 3⟩ _)
  refine Tri.of Tryz.mixed Tryz.T_ok ?_
  (refine wBegin ?_; ((conv => arg 5; whnf); repeat (refine xS ?_; conv => arg 5; whnf)))
  refine wC (fun h1 => ?_) (fun h1 => ?_)
  · (refine wGo ?_; ((conv => arg 5; whnf); repeat (refine xS ?_; conv => arg 5; whnf)))
    exact wD (Ends.plain (.inr rfl) rfl (by rw [withinB, h1]; rfl))
  · (refine wGo ?_; ((conv => arg 5; whnf); repeat (refine xS ?_; conv => arg 5; whnf)))
    exact wD (Ends.plain (.inr rfl) rfl (by rw [withinB, h1]; rfl))
def moneyB (n : Int) : Bool := withinB n 1 1125899906842624
theorem moneyOK_can (n : Int) : Reads Tryz.prog 101 [.plain (.one (.raw (.int .i64 n)))] [] (XV.bool (moneyB n)) := by
  refine Reads.of Tryz.T_ok Tryz.func101 rfl _ _ _ rfl rfl (fun C hC => ?_)
  (replace hC : C.n0 = 1 := hC; change Tri _ _ _ ⟨_, _, 1⟩ _)
  refine Tri.of Tryz.mixed Tryz.T_ok ?_
  (refine wBegin ?_; ((conv => arg 5; whnf); repeat (refine xS ?_; conv => arg 5; whnf)))
  (apply wP; exact (call_op rfl (entersB_of Tryz.func65 (by kernel_rfl)) rfl ((within_can n 1 1125899906842624).at [] ⟨lend_plain rfl, lend_plain rfl, lend_plain rfl, trivial⟩ trivial)); ((conv => arg 5; whnf); repeat (refine xS ?_; conv => arg 5; whnf)))
  exact wD (Ends.plain (.inr rfl) rfl rfl)
def acctB (s n : Int) : Bool := withinB s 0 7 && withinB n 0 65535
theorem acctOK_can (s n : Int) : Reads Tryz.prog 104 [.plain (.one (.raw (.int .i64 s))), .plain (.one (.raw (.int .i64 n)))] [] (XV.bool (acctB s n)) := by
  refine Reads.of Tryz.T_ok Tryz.func104 rfl _ _ _ rfl rfl (fun C hC => ?_)
  (replace hC : C.n0 = 2 := hC; change Tri _ _ _ ⟨_, _, 2⟩ _)
  refine Tri.of Tryz.mixed Tryz.T_ok ?_
  (refine wBegin ?_; ((conv => arg 5; whnf); repeat (refine xS ?_; conv => arg 5; whnf)))
  (apply wP; exact (call_op rfl (entersB_of Tryz.func65 (by kernel_rfl)) rfl ((within_can s 0 7).at [] ⟨lend_plain rfl, lend_plain rfl, lend_plain rfl, trivial⟩ trivial)); ((conv => arg 5; whnf); repeat (refine xS ?_; conv => arg 5; whnf)))
  refine wC (fun h1 => ?_) (fun h1 => ?_)
  · (refine wGo ?_; ((conv => arg 5; whnf); repeat (refine xS ?_; conv => arg 5; whnf)))
    (apply wP; exact (call_op rfl (entersB_of Tryz.func65 (by kernel_rfl)) rfl ((within_can n 0 65535).at [] ⟨lend_plain rfl, lend_plain rfl, lend_plain rfl, trivial⟩ trivial)); ((conv => arg 5; whnf); repeat (refine xS ?_; conv => arg 5; whnf)))
    exact wD (Ends.plain (.inr rfl) rfl (by rw [acctB, h1]; rfl))
  · (refine wGo ?_; ((conv => arg 5; whnf); repeat (refine xS ?_; conv => arg 5; whnf)))
    exact wD (Ends.plain (.inr rfl) rfl (by rw [acctB, h1]; rfl))
def zeroB (h : H8) : Bool := decide (h = zeroH)
theorem zero_can (h : H8) : Reads Tryz.prog 100 [.plain h.x] [] (XV.bool (zeroB h)) := by
  refine Reads.of Tryz.T_ok Tryz.func100 rfl _ _ _ rfl rfl (fun C hC => ?_)
  (replace hC : C.n0 = 1 := hC; change Tri _ _ _ ⟨_, _, 1⟩ _)
  refine Tri.of Tryz.mixed Tryz.T_ok ?_
  (refine wBegin ?_; ((conv => arg 5; whnf); repeat (refine xS ?_; conv => arg 5; whnf)))
  (refine wP _ _ (eq_op hashE rfl h zeroH rfl rfl) ?_; ((conv => arg 5; whnf); repeat (refine xS ?_; conv => arg 5; whnf)))
  exact wD (Ends.plain (.inr rfl) rfl rfl)
theorem rzero_can (h : H8) : Reads Tryz.prog 110 [.plain h.x] [] (XV.bool (zeroB h)) := by
  refine Reads.of Tryz.T_ok Tryz.func110 rfl _ _ _ rfl rfl (fun C hC => ?_)
  (replace hC : C.n0 = 1 := hC; change Tri _ _ _ ⟨_, _, 1⟩ _)
  refine Tri.of Tryz.mixed Tryz.T_ok ?_
  (refine wBegin ?_; ((conv => arg 5; whnf); repeat (refine xS ?_; conv => arg 5; whnf)))
  (refine wP _ _ (eq_op hashE rfl h zeroH rfl rfl) ?_; ((conv => arg 5; whnf); repeat (refine xS ?_; conv => arg 5; whnf)))
  exact wD (Ends.plain (.inr rfl) rfl rfl)
end Go.Proofs.YtmoohekgheoliaaGreatDoor
namespace Go.Proofs.YtmoohekgheoliaaGreatDoor
set_option maxRecDepth 100000
open Go.Sx
theorem all_take_succ {E : Type} [Inhabited E] {p : E → Bool} {l : List E} {i : Nat} (hi : i < l.length) : (l.take (i + 1)).all p = ((l.take i).all p && p (l.getD i default)) := by
  rw [List.take_add_one, List.all_append]
  have : l[i]?.toList = [l.getD i default] := by rw [List.getElem?_eq_getElem hi, List.getD_eq_getElem?_getD, List.getElem?_eq_getElem hi]; rfl
  rw [this]; simp
theorem all_false {E : Type} [Inhabited E] {p : E → Bool} {l : List E} {i : Nat} (hi : i < l.length) (h : p (l.getD i default) = false) : l.all p = false := by
  rw [List.all_eq_false]
  refine ⟨l.getD i default, ?_, by rw [h]; simp⟩
  rw [List.getD_eq_getElem?_getD, List.getElem?_eq_getElem hi]
  exact List.getElem_mem hi
def outOK (o : OutM) : Bool := !zeroB o.to && moneyB o.amt.toInt
def outsOK (l : List OutM) : Bool := l.all outOK && decide (l.length ≤ 16)
theorem outsOK_can (l : List OutM) (hl : l.length ≤ 1000000000) : Reads Tryz.prog 66 [.row 9 l.length (outsF l)] [] (XV.bool (outsOK l)) := by
  refine Reads.of Tryz.T_ok Tryz.func66 rfl _ _ _ rfl rfl (fun C hC => ?_)
  (replace hC : C.n0 = 1 := hC; change Tri _ _ _ ⟨_, _, 1⟩ _)
  (refine Tri.cut 1 Tryz.mixed Tryz.T_ok ?_; ((conv => arg 5; whnf); repeat (refine xS ?_; conv => arg 5; whnf)))
  refine wD <| cutG <| Tri.seq ?_
  (refine Tri.cut 1 Tryz.mixed Tryz.T_ok ?_; ((conv => arg 5; whnf); repeat (refine xS ?_; conv => arg 5; whnf)))
  refine wD <| cutG <| Tri.block ?_
  refine Tri.loop (α := { i : Nat // i ≤ l.length ∧ (l.take i).all outOK = true }) (fun i => ⟨[some (XV.sv (.slc 0 9 0 l.length)), none, none, none, none, some (XV.sv (.slc 0 9 0 l.length)), some (XV.int .i64 l.length), some (XV.int .i64 i.1)] ++ List.replicate 16 none, [(0, .ro 9 l.length (outsF l))], 1⟩) (fun i => l.length - i.1) ⟨0, Nat.zero_le _, rfl⟩ ?_ ?_
  · ((try dsimp only); refine Ent.renC [0] hC ?_ ?_ <;> repeat' (first | exact trivial | exact rfl | exact ⟨_, rfl, rfl, rfl, Nat.le_refl _, fun _ _ => rfl⟩ | exact ⟨_, rfl, rfl, rfl, fun _ _ => rfl⟩ | exact ⟨_, rfl, rfl, rfl⟩ | exact ⟨_, rfl, rfl⟩ | refine ⟨_, rfl, rfl, rfl, by omega, fun k hk => ?_⟩ | refine ⟨?_, ?_⟩ | fail))
  rintro ⟨i, hi, ha⟩
  dsimp only
  (refine Tri.cut 2 Tryz.mixed Tryz.T_ok ?_; ((conv => arg 5; whnf); repeat (refine xS ?_; conv => arg 5; whnf)))
  refine wC (fun h1 => ?_) (fun h1 => ?_)
  · (refine wGo ?_; ((conv => arg 5; whnf); repeat (refine xS ?_; conv => arg 5; whnf)))
    have h1' : i < l.length := (by (try simp only [ww] at *); omega)
    have hs := all_take_succ (p := outOK) h1'
    have hw : IntKind.i64.wrap ((i : Int) + 1) = ((i + 1 : Nat) : Int) := (by (try simp only [ww] at *); omega)
    refine wD <| cutG <| Tri.seq <| Tri.block <| Tri.of Tryz.mixed Tryz.T_ok ?_
    (refine wBegin ?_; ((conv => arg 5; whnf); repeat (refine xS ?_; conv => arg 5; whnf)))
    (repeat (refine wN ?_ ?_; exact (by (try simp only [ww] at *); omega); refine wGo ?_; ((conv => arg 5; whnf); repeat (refine xS ?_; conv => arg 5; whnf))))
    simp only [Nat.zero_add, Int.toNat_natCast]
    (apply wP; exact (call_op rfl (entersB_of Tryz.func100 (by kernel_rfl)) rfl ((zero_can (l.getD i default).to).at [] ⟨lend_plain rfl, trivial⟩ trivial)); ((conv => arg 5; whnf); repeat (refine xS ?_; conv => arg 5; whnf)))
    refine wC (fun h2 => ?_) (fun h2 => ?_)
    · (refine wGo ?_; ((conv => arg 5; whnf); repeat (refine xS ?_; conv => arg 5; whnf)))
      refine wD <| blockR <| cutR <| loopR <| blockR <| cutR <| Ends.plain (.inr rfl) rfl ?_
      rw [outsOK, all_false h1' (by rw [outOK, h2]; rfl), Bool.false_and]
    · (refine wGo ?_; ((conv => arg 5; whnf); repeat (refine xS ?_; conv => arg 5; whnf)))
      (apply wP; exact (call_op rfl (entersB_of Tryz.func101 (by kernel_rfl)) rfl ((moneyOK_can (l.getD i default).amt.toInt).at [] ⟨lend_plain rfl, trivial⟩ trivial)); ((conv => arg 5; whnf); repeat (refine xS ?_; conv => arg 5; whnf)))
      refine wC (fun h3 => ?_) (fun h3 => ?_)
      · (refine wGo ?_; ((conv => arg 5; whnf); repeat (refine xS ?_; conv => arg 5; whnf)))
        refine wD <| blockR <| cutR <| loopR <| blockR <| cutR <| Ends.plain (.inr rfl) rfl ?_
        rw [outsOK, all_false h1' (by rw [outOK, h2, show moneyB (l.getD i default).amt.toInt = false by simpa using h3]; rfl), Bool.false_and]
      · (refine wGo ?_; ((conv => arg 5; whnf); repeat (refine xS ?_; conv => arg 5; whnf)))
        refine wD <| blockN <| cutG <| Tri.of Tryz.mixed Tryz.T_ok ?_
        (refine wBegin ?_; ((conv => arg 5; whnf); repeat (refine xS ?_; conv => arg 5; whnf)))
        refine wD <| loopN ⟨⟨i + 1, h1', by rw [hs, ha, outOK, h2, show moneyB (l.getD i default).amt.toInt = true by simpa using h3]; rfl⟩, by dsimp only; omega, ?_⟩
        rw [hw]
        ((try dsimp only); refine Ent.renC [0] hC ?_ ?_ <;> repeat' (first | exact trivial | exact rfl | exact ⟨_, rfl, rfl, rfl, Nat.le_refl _, fun _ _ => rfl⟩ | exact ⟨_, rfl, rfl, rfl, fun _ _ => rfl⟩ | exact ⟨_, rfl, rfl, rfl⟩ | exact ⟨_, rfl, rfl⟩ | refine ⟨_, rfl, rfl, rfl, by omega, fun k hk => ?_⟩ | refine ⟨?_, ?_⟩ | fail))
  · (refine wGo ?_; ((conv => arg 5; whnf); repeat (refine xS ?_; conv => arg 5; whnf)))
    have h1' : i = l.length := (by (try simp only [ww] at *); omega)
    subst h1'
    rw [List.take_length] at ha
    refine wD <| cutE <| loopX <| blockX <| cutG <| Tri.of Tryz.mixed Tryz.T_ok ?_
    (refine wBegin ?_; ((conv => arg 5; whnf); repeat (refine xS ?_; conv => arg 5; whnf)))
    refine wD (Ends.plain (.inr rfl) rfl ?_)
    have e : decide ((l.length : Int) ≤ 16) = decide (l.length ≤ 16) := by rw [Bool.eq_iff_iff]; simp; omega
    rw [outsOK, ha, e, Bool.true_and]
def fwdOK (f : FwdM) : Bool := acctB f.side.toInt f.acct.toInt && !zeroB f.owner && moneyB f.amt.toInt
def fwdsOK (l : List FwdM) : Bool := l.all fwdOK && decide (l.length ≤ 16)
theorem fwdsOK_can (l : List FwdM) (hl : l.length ≤ 1000000000) : Reads Tryz.prog 68 [.row 11 l.length (fwdsF l)] [] (XV.bool (fwdsOK l)) := by
  refine Reads.of Tryz.T_ok Tryz.func68 rfl _ _ _ rfl rfl (fun C hC => ?_)
  (replace hC : C.n0 = 1 := hC; change Tri _ _ _ ⟨_, _, 1⟩ _)
  (refine Tri.cut 1 Tryz.mixed Tryz.T_ok ?_; ((conv => arg 5; whnf); repeat (refine xS ?_; conv => arg 5; whnf)))
  refine wD <| cutG <| Tri.seq ?_
  (refine Tri.cut 1 Tryz.mixed Tryz.T_ok ?_; ((conv => arg 5; whnf); repeat (refine xS ?_; conv => arg 5; whnf)))
  refine wD <| cutG <| Tri.block ?_
  refine Tri.loop (α := { i : Nat // i ≤ l.length ∧ (l.take i).all fwdOK = true }) (fun i => ⟨[some (XV.sv (.slc 0 11 0 l.length)), none, none, none, none, some (XV.sv (.slc 0 11 0 l.length)), some (XV.int .i64 l.length), some (XV.int .i64 i.1)] ++ List.replicate 24 none, [(0, .ro 11 l.length (fwdsF l))], 1⟩) (fun i => l.length - i.1) ⟨0, Nat.zero_le _, rfl⟩ ?_ ?_
  · ((try dsimp only); refine Ent.renC [0] hC ?_ ?_ <;> repeat' (first | exact trivial | exact rfl | exact ⟨_, rfl, rfl, rfl, Nat.le_refl _, fun _ _ => rfl⟩ | exact ⟨_, rfl, rfl, rfl, fun _ _ => rfl⟩ | exact ⟨_, rfl, rfl, rfl⟩ | exact ⟨_, rfl, rfl⟩ | refine ⟨_, rfl, rfl, rfl, by omega, fun k hk => ?_⟩ | refine ⟨?_, ?_⟩ | fail))
  rintro ⟨i, hi, ha⟩
  dsimp only
  (refine Tri.cut 2 Tryz.mixed Tryz.T_ok ?_; ((conv => arg 5; whnf); repeat (refine xS ?_; conv => arg 5; whnf)))
  refine wC (fun h1 => ?_) (fun h1 => ?_)
  · (refine wGo ?_; ((conv => arg 5; whnf); repeat (refine xS ?_; conv => arg 5; whnf)))
    have h1' : i < l.length := (by (try simp only [ww] at *); omega)
    have hs := all_take_succ (p := fwdOK) h1'
    have hw : IntKind.i64.wrap ((i : Int) + 1) = ((i + 1 : Nat) : Int) := (by (try simp only [ww] at *); omega)
    refine wD <| cutG <| Tri.seq <| Tri.block <| Tri.of Tryz.mixed Tryz.T_ok ?_
    (refine wBegin ?_; ((conv => arg 5; whnf); repeat (refine xS ?_; conv => arg 5; whnf)))
    (repeat (refine wN ?_ ?_; exact (by (try simp only [ww] at *); omega); refine wGo ?_; ((conv => arg 5; whnf); repeat (refine xS ?_; conv => arg 5; whnf))))
    simp only [Nat.zero_add, Int.toNat_natCast]
    (apply wP; exact (call_op rfl (entersB_of Tryz.func104 (by kernel_rfl)) rfl ((acctOK_can (l.getD i default).side.toInt (l.getD i default).acct.toInt).at [] ⟨lend_plain rfl, lend_plain rfl, trivial⟩ trivial)); ((conv => arg 5; whnf); repeat (refine xS ?_; conv => arg 5; whnf)))
    refine wC (fun h2 => ?_) (fun h2 => ?_)
    · have h2 : acctB (l.getD i default).side.toInt (l.getD i default).acct.toInt = false := by simpa using h2
      (refine wGo ?_; ((conv => arg 5; whnf); repeat (refine xS ?_; conv => arg 5; whnf)))
      refine wD <| blockR <| cutR <| loopR <| blockR <| cutR <| Ends.plain (.inr rfl) rfl ?_
      rw [fwdsOK, all_false h1' (by rw [fwdOK, h2]; rfl), Bool.false_and]
    · have h2 : acctB (l.getD i default).side.toInt (l.getD i default).acct.toInt = true := by simpa using h2
      (refine wGo ?_; ((conv => arg 5; whnf); repeat (refine xS ?_; conv => arg 5; whnf)))
      (apply wP; exact (call_op rfl (entersB_of Tryz.func100 (by kernel_rfl)) rfl ((zero_can (l.getD i default).owner).at [] ⟨lend_plain rfl, trivial⟩ trivial)); ((conv => arg 5; whnf); repeat (refine xS ?_; conv => arg 5; whnf)))
      refine wC (fun h3 => ?_) (fun h3 => ?_)
      · (refine wGo ?_; ((conv => arg 5; whnf); repeat (refine xS ?_; conv => arg 5; whnf)))
        refine wD <| blockR <| cutR <| loopR <| blockR <| cutR <| Ends.plain (.inr rfl) rfl ?_
        rw [fwdsOK, all_false h1' (by rw [fwdOK, h2, h3]; rfl), Bool.false_and]
      · (refine wGo ?_; ((conv => arg 5; whnf); repeat (refine xS ?_; conv => arg 5; whnf)))
        (apply wP; exact (call_op rfl (entersB_of Tryz.func101 (by kernel_rfl)) rfl ((moneyOK_can (l.getD i default).amt.toInt).at [] ⟨lend_plain rfl, trivial⟩ trivial)); ((conv => arg 5; whnf); repeat (refine xS ?_; conv => arg 5; whnf)))
        refine wC (fun h4 => ?_) (fun h4 => ?_)
        · (refine wGo ?_; ((conv => arg 5; whnf); repeat (refine xS ?_; conv => arg 5; whnf)))
          refine wD <| blockR <| cutR <| loopR <| blockR <| cutR <| Ends.plain (.inr rfl) rfl ?_
          rw [fwdsOK, all_false h1' (by rw [fwdOK, h2, h3, show moneyB (l.getD i default).amt.toInt = false by simpa using h4]; rfl), Bool.false_and]
        · (refine wGo ?_; ((conv => arg 5; whnf); repeat (refine xS ?_; conv => arg 5; whnf)))
          refine wD <| blockN <| cutG <| Tri.of Tryz.mixed Tryz.T_ok ?_
          (refine wBegin ?_; ((conv => arg 5; whnf); repeat (refine xS ?_; conv => arg 5; whnf)))
          refine wD <| loopN ⟨⟨i + 1, h1', by rw [hs, ha, fwdOK, h2, h3, show moneyB (l.getD i default).amt.toInt = true by simpa using h4]; rfl⟩, by dsimp only; omega, ?_⟩
          rw [hw]
          ((try dsimp only); refine Ent.renC [0] hC ?_ ?_ <;> repeat' (first | exact trivial | exact rfl | exact ⟨_, rfl, rfl, rfl, Nat.le_refl _, fun _ _ => rfl⟩ | exact ⟨_, rfl, rfl, rfl, fun _ _ => rfl⟩ | exact ⟨_, rfl, rfl, rfl⟩ | exact ⟨_, rfl, rfl⟩ | refine ⟨_, rfl, rfl, rfl, by omega, fun k hk => ?_⟩ | refine ⟨?_, ?_⟩ | fail))
  · (refine wGo ?_; ((conv => arg 5; whnf); repeat (refine xS ?_; conv => arg 5; whnf)))
    have h1' : i = l.length := (by (try simp only [ww] at *); omega)
    subst h1'
    rw [List.take_length] at ha
    refine wD <| cutE <| loopX <| blockX <| cutG <| Tri.of Tryz.mixed Tryz.T_ok ?_
    (refine wBegin ?_; ((conv => arg 5; whnf); repeat (refine xS ?_; conv => arg 5; whnf)))
    refine wD (Ends.plain (.inr rfl) rfl ?_)
    have e : decide ((l.length : Int) ≤ 16) = decide (l.length ≤ 16) := by rw [Bool.eq_iff_iff]; simp; omega
    rw [fwdsOK, ha, e, Bool.true_and]
def AD.cell (sz : Nat) (cells : List Value) : AD := ⟨1, fun i => .one (.ptr i 0 sz 0), fun i => [(i, .ro sz 1 fun _ => cells)], fun h => one_low rfl h⟩
theorem lend_cell_ro {M : Mem} {rd : List Nat} {c sz k : Nat} {f : Nat → List Value} (hm : M.get c = some (.ro sz 1 f)) (hrd : nmem c rd = true) : Lends M rd (.one (.ptr c 0 k 0)) (AD.cell sz (f 0)) := by
  intro β ow w v hw hv hr
  have hh := hr c ((nmem_iff c rd).1 hrd) _ hm
  refine ⟨[β c], rfl, fun i β0 hβ => ?_⟩
  have hb : β0 i = β c := by simpa using hβ 0 _ rfl
  refine ⟨?_, one_holds hb ?_⟩
  · simp only [AD.cell, CV.rel, SV.rel, Nat.zero_mul] at hv ⊢
    rw [hb]; exact hv
  · simp only [HoldsAt, RoAt]
    simp only [Holds] at hh
    by_cases hn : (β c).nil = true
    · rw [if_pos hn] at hh; omega
    · rw [if_neg hn] at hh ⊢
      refine ⟨⟨hh.2.1, .inl hh.1⟩, fun i hi => ?_⟩
      obtain rfl : i = 0 := by omega
      exact hh.2.2 0 hi
theorem lend_clo_ro {M : Mem} {rd : List Nat} {f : FuncId} {c sz : Nat} {g : Nat → List Value} (hm : M.get c = some (.ro sz 1 g)) (hrd : nmem c rd = true) : Lends M rd (.one (.fn f [c])) (AD.clo f sz (g 0)) := by
  intro β ow w v hw hv hr
  have hh := hr c ((nmem_iff c rd).1 hrd) _ hm
  refine ⟨[β c], rfl, fun i β0 hβ => ?_⟩
  have hb : β0 i = β c := by simpa using hβ 0 _ rfl
  refine ⟨?_, one_holds hb ?_⟩
  · simp only [AD.clo, CV.rel, SV.rel, List.map_cons, List.map_nil] at hv ⊢
    rw [hb]; exact hv
  · simp only [HoldsAt, RoAt]
    simp only [Holds] at hh
    by_cases hn : (β c).nil = true
    · rw [if_pos hn] at hh; omega
    · rw [if_neg hn] at hh ⊢
      refine ⟨⟨hh.2.1, .inl hh.1⟩, fun i hi => ?_⟩
      obtain rfl : i = 0 := by omega
      exact hh.2.2 0 hi
def InM.x (x : InM) : CV := .agg (x.cells.map .raw)
theorem sameFrom_can (x y : InM) : Reads Tryz.prog 103 [.plain y.x, AD.cell 298 x.cells] [] (XV.bool (decide (y.pt = x.pt))) := by
  refine Reads.of Tryz.T_ok Tryz.func103 rfl _ _ _ rfl rfl (fun C hC => ?_)
  (replace hC : C.n0 = 2 := hC; change Tri _ _ _ ⟨_, _, 2⟩ _)
  refine Tri.of Tryz.mixed Tryz.T_ok ?_
  (refine wBegin ?_; ((conv => arg 5; whnf); repeat (refine xS ?_; conv => arg 5; whnf)))
  (repeat (refine wN ?_ ?_; exact (by (try simp only [ww] at *); omega); refine wGo ?_; ((conv => arg 5; whnf); repeat (refine xS ?_; conv => arg 5; whnf))))
  (refine wP _ _ (eq_op ptE rfl y.pt x.pt rfl rfl) ?_; ((conv => arg 5; whnf); repeat (refine xS ?_; conv => arg 5; whnf)))
  exact wD (Ends.plain (.inr rfl) rfl rfl)
theorem sameFrom_in : entersB Tryz.prog 103 = true := entersB_of Tryz.func103 (by kernel_rfl)
def sameAs (x : InM) (y : InM) : Bool := decide (y.pt = x.pt)
def idxF (q : InM → Bool) (l : List InM) : Int := if l.any q = true then ((l.findIdx q : Nat) : Int) else -1
theorem any_take_succ {E : Type} [Inhabited E] {p : E → Bool} {l : List E} {i : Nat} (hi : i < l.length) : (l.take (i + 1)).any p = ((l.take i).any p || p (l.getD i default)) := by
  rw [List.take_add_one, List.any_append]
  have : l[i]?.toList = [l.getD i default] := by rw [List.getElem?_eq_getElem hi, List.getD_eq_getElem?_getD, List.getElem?_eq_getElem hi]; rfl
  rw [this]; simp
theorem idxF_at {q : InM → Bool} {l : List InM} {i : Nat} (hi : i < l.length) (h : q (l.getD i default) = true) (hb : (l.take i).any q = false) : idxF q l = (i : Int) := by
  have hd : l.getD i default = l[i] := by rw [List.getD_eq_getElem?_getD, List.getElem?_eq_getElem hi]; rfl
  rw [hd] at h
  have ha : l.any q = true := List.any_eq_true.2 ⟨l[i], List.getElem_mem hi, h⟩
  rw [idxF, if_pos ha, (List.findIdx_eq hi).2 ⟨h, fun j hj => ?_⟩]
  have := List.any_eq_false.1 hb l[j] (List.mem_take_iff_getElem.2 ⟨j, by omega, rfl⟩)
  simpa using this
theorem indexFunc_can (x : InM) (l : List InM) (hl : l.length ≤ 1000000000) : Reads Tryz.prog 130 [.row 298 l.length (insF l), AD.clo 103 298 x.cells] [] (XV.int .i64 (idxF (sameAs x) l)) := by
  refine Reads.of Tryz.T_ok Tryz.func130 rfl _ _ _ rfl rfl (fun C hC => ?_)
  (replace hC : C.n0 = 2 := hC; change Tri _ _ _ ⟨_, _, 2⟩ _)
  (refine Tri.cut 1 Tryz.mixed Tryz.T_ok ?_; ((conv => arg 5; whnf); repeat (refine xS ?_; conv => arg 5; whnf)))
  refine wD <| cutG <| Tri.seq ?_
  (refine Tri.cut 1 Tryz.mixed Tryz.T_ok ?_; ((conv => arg 5; whnf); repeat (refine xS ?_; conv => arg 5; whnf)))
  refine wD <| cutG <| Tri.block ?_
  refine Tri.loop (α := { i : Nat // i ≤ l.length ∧ (l.take i).any (sameAs x) = false }) (fun i => ⟨[some (XV.sv (.slc 0 298 0 l.length)), some (XV.sv (.fn 103 [1])), none, none, none, none, none, some (XV.int .i64 l.length), some (XV.int .i64 i.1)] ++ List.replicate 10 none, [(0, .ro 298 l.length (insF l)), (1, .ro 298 1 fun _ => x.cells)], 2⟩) (fun i => l.length - i.1) ⟨0, Nat.zero_le _, rfl⟩ ?_ ?_
  · ((try dsimp only); refine Ent.renC [0, 1] hC ?_ ?_ <;> repeat' (first | exact trivial | exact rfl | exact ⟨_, rfl, rfl, rfl, Nat.le_refl _, fun _ _ => rfl⟩ | exact ⟨_, rfl, rfl, rfl, fun _ _ => rfl⟩ | exact ⟨_, rfl, rfl, rfl⟩ | exact ⟨_, rfl, rfl⟩ | refine ⟨_, rfl, rfl, rfl, by omega, fun k hk => ?_⟩ | refine ⟨?_, ?_⟩ | fail))
  rintro ⟨i, hi, ha⟩
  dsimp only
  (refine Tri.cut 2 Tryz.mixed Tryz.T_ok ?_; ((conv => arg 5; whnf); repeat (refine xS ?_; conv => arg 5; whnf)))
  refine wC (fun h1 => ?_) (fun h1 => ?_)
  · (refine wGo ?_; ((conv => arg 5; whnf); repeat (refine xS ?_; conv => arg 5; whnf)))
    have h1' : i < l.length := (by (try simp only [ww] at *); omega)
    have hs := any_take_succ (p := sameAs x) h1'
    have hw : IntKind.i64.wrap ((i : Int) + 1) = ((i + 1 : Nat) : Int) := (by (try simp only [ww] at *); omega)
    refine wD <| cutG <| Tri.seq <| Tri.block <| Tri.of Tryz.mixed Tryz.T_ok ?_
    (refine wBegin ?_; ((conv => arg 5; whnf); repeat (refine xS ?_; conv => arg 5; whnf)))
    (repeat (refine wN ?_ ?_; exact (by (try simp only [ww] at *); omega); refine wGo ?_; ((conv => arg 5; whnf); repeat (refine xS ?_; conv => arg 5; whnf))))
    simp only [Nat.zero_add, Int.toNat_natCast]
    (refine wP _ _ (callFn_op rfl rfl sameFrom_in rfl ((sameFrom_can x (l.getD i default)).at [1] ⟨lend_plain rfl, lend_cell_ro (f := fun _ => x.cells) rfl rfl, trivial⟩ trivial)) ?_; ((conv => arg 5; whnf); repeat (refine xS ?_; conv => arg 5; whnf)))
    refine wC (fun h2 => ?_) (fun h2 => ?_)
    · (refine wGo ?_; ((conv => arg 5; whnf); repeat (refine xS ?_; conv => arg 5; whnf)))
      refine wD <| blockR <| cutR <| loopR <| blockR <| cutR <| Ends.plain (.inr rfl) rfl ?_
      rw [idxF_at h1' h2 ha]
    · (refine wGo ?_; ((conv => arg 5; whnf); repeat (refine xS ?_; conv => arg 5; whnf)))
      refine wD <| blockN <| cutG <| Tri.of Tryz.mixed Tryz.T_ok ?_
      (refine wBegin ?_; ((conv => arg 5; whnf); repeat (refine xS ?_; conv => arg 5; whnf)))
      refine wD <| loopN ⟨⟨i + 1, h1', by rw [hs, ha]; exact h2⟩, by dsimp only; omega, ?_⟩
      rw [hw]
      ((try dsimp only); refine Ent.renC [0, 1] hC ?_ ?_ <;> repeat' (first | exact trivial | exact rfl | exact ⟨_, rfl, rfl, rfl, Nat.le_refl _, fun _ _ => rfl⟩ | exact ⟨_, rfl, rfl, rfl, fun _ _ => rfl⟩ | exact ⟨_, rfl, rfl, rfl⟩ | exact ⟨_, rfl, rfl⟩ | refine ⟨_, rfl, rfl, rfl, by omega, fun k hk => ?_⟩ | refine ⟨?_, ?_⟩ | fail))
  · (refine wGo ?_; ((conv => arg 5; whnf); repeat (refine xS ?_; conv => arg 5; whnf)))
    have h1' : i = l.length := (by (try simp only [ww] at *); omega)
    subst h1'
    rw [List.take_length] at ha
    refine wD <| cutE <| loopX <| blockX <| cutG <| Tri.of Tryz.mixed Tryz.T_ok ?_
    (refine wBegin ?_; ((conv => arg 5; whnf); repeat (refine xS ?_; conv => arg 5; whnf)))
    refine wD (Ends.plain (.inr rfl) rfl ?_)
    rw [idxF, ha]; rfl
theorem containsFunc_can (x : InM) (l : List InM) (hl : l.length ≤ 1000000000) : Reads Tryz.prog 102 [.row 298 l.length (insF l), AD.clo 103 298 x.cells] [] (XV.bool (l.any (sameAs x))) := by
  refine Reads.of Tryz.T_ok Tryz.func102 rfl _ _ _ rfl rfl (fun C hC => ?_)
  (replace hC : C.n0 = 2 := hC; change Tri _ _ _ ⟨_, _, 2⟩ _)
  refine Tri.of Tryz.mixed Tryz.T_ok ?_
  (refine wBegin ?_; ((conv => arg 5; whnf); repeat (refine xS ?_; conv => arg 5; whnf)))
  (apply wP; exact (call_op rfl (entersB_of Tryz.func130 (by kernel_rfl)) rfl ((indexFunc_can x l hl).at [0, 1] ⟨lend_ro rfl rfl (by omega) (fun i _ => by rw [Nat.zero_add]), lend_clo_ro (g := fun _ => x.cells) rfl rfl, trivial⟩ trivial)); ((conv => arg 5; whnf); repeat (refine xS ?_; conv => arg 5; whnf)))
  refine wD (Ends.plain (.inr rfl) rfl ?_)
  have e : decide (0 ≤ idxF (sameAs x) l) = l.any (sameAs x) := by
    unfold idxF
    cases h : l.any (sameAs x)
    · rfl
    · rw [if_pos rfl]; exact decide_eq_true (Int.natCast_nonneg _)
  exact congrArg (fun b : Bool => XV.bool b) e
end Go.Proofs.YtmoohekgheoliaaGreatDoor
