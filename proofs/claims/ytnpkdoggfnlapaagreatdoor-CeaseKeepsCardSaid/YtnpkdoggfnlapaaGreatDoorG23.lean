/- Proved: whatever the input, drawbridgelaw16.CeaseKeeps returns true, and the input reads as it did; condition: the variable hash.steps holds what the program's text lays, and the card ties that to the text. -/
import Derived.Test.YtnpkdoggfnlapaaGreatDoorG21
import Derived.Test.YtnpkdoggfnlapaaGreatDoorG22
import Derived.Test.YtnpkdoggfnlapaaGreatDoorG12
import Derived.Test.YtnpkdoggfnlapaaGreatDoorG11
import Derived.LaidMore
import Derived.LaidHandle
import Derived.MakeChecks
import Derived.Stop.Joined
import Derived.Test.YtnpkdoggfnlapaaGreatDoorTie
import Derived.Test.YtnpkdoggfnlapaaGreatDoorCards
set_option linter.unusedSimpArgs false
set_option linter.unusedVariables false
namespace Go.Sx
variable {S : St}
theorem new_empty {x : Operand} {b : Option Addr} {c : Nat} (hx : S.ev x = some (XV.val (.slice b 0 c))) (rd : List Nat) (sz : Nat) (g : Nat → List Value) : NewOp S x rd sz 0 g := by
  intro β ow w v h1 _
  have := h1 _ hx
  simp only [XV.rel, CV.rel, SV.rel] at this
  exact ⟨⟨b, c, this, fun h => absurd h (Nat.lt_irrefl 0)⟩, fun i hi => absurd hi (Nat.not_lt_zero i)⟩
end Go.Sx
namespace Go.Proofs.YtnpkdoggfnlapaaGreatDoor
set_option maxRecDepth 100000
open Go.Sx
def sideRaw (x : SideM) (g : Nat → Option Addr × Nat) : List SV := ((fillA 0 x.ac g).take 41).map .raw
set_option maxHeartbeats 4000000 in
theorem lawSide_can (x : SideM) (g : Nat → Option Addr × Nat) (hu : x.used = []) : Makes Tryz.prog 50 [.plain (.agg ((fillA 0 x.ac g).map .raw))] [] (.cv (.agg (sideRaw x g ++ [.slc 0 1 0 0]))) (.vec 3 1 0 (intsF [])) := by
  obtain ⟨par, made, bal, fwd, mat, clm, ceased, hgt, root, pend, cert, used⟩ := x
  dsimp only at hu
  subst hu
  refine Makes.of Tryz.T_ok Tryz.func50 rfl _ _ _ _ rfl rfl rfl rfl 27 (fun C hC => ?_)
  (replace hC : C.n0 = 1 := hC; change Tri _ _ _ ⟨_, _, 1⟩ _)
  refine Tri.of Tryz.mixed Tryz.T_ok ?_
  (refine wBegin ?_; ((conv => arg 5; whnf); repeat (refine xS ?_; conv => arg 5; whnf)))
  (refine wP _ _ (append_op Tryz.T_ok rfl rfl rfl rfl rfl [] (old_nil rfl _ _ _ (fun _ => [])) (new_empty rfl _ _ (fun _ => [])) rfl (fun i hi => absurd hi (Nat.not_lt_zero i)) (by decide) (by decide)) ?_; ((conv => arg 5; whnf); repeat (refine xS ?_; conv => arg 5; whnf)))
  exact wD (Ends.made (.inr rfl) (Ent.chg0 (c := 27) (n := 0) (g := intsF []) rfl (fun i hi => absurd hi (Nat.not_lt_zero i))) rfl (Nat.le_of_ble_eq_true rfl) rfl)
def sideD (y : SideM) (c : Bool) (r : H8) : SideM := { y with ceased := c, root := r }
def sideC (a : AcsM) (money : Int) (ceased : Bool) : SideM := sideD (sideN money) ceased (rootA a)
theorem sideN_eq (m : Int) : (sideN m).par = mp ∧ (sideN m).cert = cert0 ∧ (sideN m).used = [] := by
  unfold sideN fwdX
  split <;> exact ⟨rfl, rfl, rfl⟩
theorem sideC_sized (a : AcsM) (money : Int) (ceased : Bool) : (sideC a money ceased).Sized := by
  obtain ⟨h1, h2, h3⟩ := sideN_eq money
  refine ⟨?_, ?_, ?_, ?_⟩
  · show (sideN money).par.keys.length ≤ _
    rw [h1, mp_len]; decide
  · show (sideN money).cert.outs.length ≤ _
    rw [h2]; decide
  · show (sideN money).cert.sigs.length ≤ _
    rw [h2]; decide
  · show (sideN money).used.length ≤ _
    rw [h3]; decide
def f16St (a : AcsM) (money : Int) (ceased : Bool) : St :=
  ⟨[none, none, some (XV.bool ceased), some (XV.sv (.ptr 4 0 0 0)), none, none, none, none, some (XV.sv (.ptr 5 0 0 0)), some (XV.sv (.ptr 6 0 0 0))] ++ List.replicate 41 none,
   acsM a ++ [(4, .cells 24 [.slc 0 1 0 a.pl.length, .slc 1 1 0 a.am.length]), (5, .abs (pReg [sideN money])), (6, .abs (rReg [sideN money]))], 7⟩
theorem fillL_one (m : Int) : fillL [m] 1 = [sideN m] := rfl
set_option maxHeartbeats 8000000 in
theorem fill16_can (a : AcsM) (hf : Fair a) (money : Int) (ceased : Bool) : Makes Tryz.prog 18 [.box a.ac, .plain (.one (.raw (.int .i64 money))), .plain (.one (.raw (.bool ceased)))] [] (.tup [.one (.inn 0 0), .one (.inn 0 1)]) (.abs (PackP (fill14Pack [sideC a money ceased]))) := by
  have f1 := hf.few
  have htl := treeN_len a a.pl.length
  have hfill := fill14_can [money] (Nat.le_of_ble_eq_true rfl)
  rw [show [money].length = 1 from rfl, fillL_one] at hfill
  refine Makes.of Tryz.T_ok Tryz.func18 rfl _ _ _ _ rfl rfl rfl rfl 51 (fun C hC => ?_)
  (replace hC : C.n0 = 4 := hC; change Tri _ _ _ ⟨_, _, 4⟩ _)
  (refine Tri.cut 2 Tryz.mixed Tryz.T_ok ?_; ((conv => arg 5; whnf); repeat (refine xS ?_; conv => arg 5; whnf)))
  (apply wP; exact (call_op rfl (entersB_of Tryz.func29 (by kernel_rfl)) rfl (hfill.at [8] ⟨lend_vecN (lo := 0) rfl rfl rfl (Nat.le_refl _) (lt1 rfl), trivial⟩ trivial)); ((conv => arg 5; whnf); repeat (refine xS ?_; conv => arg 5; whnf)))
  refine wD <| cutG <| Tri.ent (Ent.unpack (c := 9) (l := fill14Pack [sideN money]) rfl) <| Tri.ent (S' := f16St a money ceased) ?_ ?_
  · unfold f16St acsM
    ((try dsimp only); refine Ent.renC [0, 1, 2, 3, 4, 15, 16] hC ?_ ?_ <;> repeat' (first | exact trivial | exact rfl | exact ⟨_, rfl, rfl, rfl, Nat.le_refl _, fun _ _ => rfl⟩ | exact ⟨_, rfl, rfl, rfl, fun _ _ => rfl⟩ | exact ⟨_, rfl, rfl, rfl⟩ | exact ⟨_, rfl, rfl⟩ | refine ⟨_, rfl, rfl, rfl, by omega, fun k hk => ?_⟩ | refine ⟨?_, ?_⟩ | fail))
  unfold f16St acsM
  obtain ⟨y, hy⟩ : ∃ y, sideN money = y := ⟨_, rfl⟩
  obtain ⟨x, hx⟩ : ∃ x, sideC a money ceased = x := ⟨_, rfl⟩
  have hxy : x = sideD y ceased (rootA a) := by rw [← hx, ← hy]; rfl
  have hu : x.used = [] := by rw [← hx]; exact (sideN_eq money).2.2
  have hsz := sideC_sized a money ceased
  rw [hx] at hsz ⊢
  rw [hy]
  subst hxy
  clear hx hy hfill
  refine Reg.opens rrS rrE [y] 6 Nat.one_pos rfl (Nat.le_of_ble_eq_true rfl) (fun ad => Tri.of Tryz.mixed Tryz.T_ok ?_)
  (refine wBegin ?_; ((conv => arg 5; whnf); repeat (refine xS ?_; conv => arg 5; whnf)))
  (refine wFd rfl ?_; refine wGo ?_; ((conv => arg 5; whnf); repeat (refine xS ?_; conv => arg 5; whnf)))
  refine wN ⟨Int.le_refl 0, (show (0 : Int) < 1 by decide)⟩ ?_
  (refine wGo ?_; ((conv => arg 5; whnf); repeat (refine xS ?_; conv => arg 5; whnf)))
  refine wN (show (0 : Nat) < 1 from Nat.one_pos) ?_
  (refine wGo ?_; ((conv => arg 5; whnf); repeat (refine xS ?_; conv => arg 5; whnf)))
  (apply wP; exact (call_op rfl (entersB_of Tryz.func46 (by kernel_rfl)) rfl ((tree16_can a hf).at [0, 1] ⟨lend_acs (lend_ro0 rfl rfl) (lend_ro0 rfl rfl), trivial⟩ trivial)); ((conv => arg 5; whnf); repeat (refine xS ?_; conv => arg 5; whnf)))
  (apply wP; exact (call_op rfl (entersB_of Tryz.func48 (by kernel_rfl)) rfl ((top_can (treeN a a.pl.length) (by omega) (treeN_placed a _)).at [] rfl rfl rfl trivial trivial)); ((conv => arg 5; whnf); repeat (refine xS ?_; conv => arg 5; whnf)))
  refine wN ⟨Int.le_refl 0, (show (0 : Int) < 1 by decide)⟩ ?_
  (refine wGo ?_; ((conv => arg 5; whnf); repeat (refine xS ?_; conv => arg 5; whnf)))
  refine wN (show (0 : Nat) < 1 from Nat.one_pos) ?_
  (refine wGo ?_; ((conv => arg 5; whnf); repeat (refine xS ?_; conv => arg 5; whnf)))
  (apply wP; exact (call_op rfl (entersB_of Tryz.func50 (by kernel_rfl)) rfl ((lawSide_can (sideD y ceased (rootA a)) (ad 0) hu).at [] ⟨lend_plain rfl, trivial⟩ trivial)); ((conv => arg 5; whnf); repeat (refine xS ?_; conv => arg 5; whnf)))
  (apply wP; exact (call_op rfl (entersB_of Tryz.func49 (by kernel_rfl)) rfl ((regSet_can [y] 0 Nat.one_pos (sideD y ceased (rootA a)) hsz).at [9, 45] rfl rfl rfl ⟨lend_plain rfl, lend_side (x := sideD y ceased (rootA a)) (lend_partO (q := 9) (F := regF [y]) (ad := ad) (i := 0) (j := 3) rfl rfl Nat.one_pos rfl) (lend_partO (q := 9) (F := regF [y]) (ad := ad) (i := 0) (j := 39) rfl rfl Nat.one_pos rfl) (lend_partO (q := 9) (F := regF [y]) (ad := ad) (i := 0) (j := 40) rfl rfl Nat.one_pos rfl) (lend_vecN (lo := 0) (by rw [hu]; rfl) rfl rfl (Nat.le_of_eq (by rw [hu]; rfl)) (fun i hi => absurd hi (by rw [hu]; exact Nat.not_lt_zero i))), trivial⟩ trivial)); ((conv => arg 5; whnf); repeat (refine xS ?_; conv => arg 5; whnf)))
  have e0 : ([y].set 0 (sideD y ceased (rootA a))) = [sideD y ceased (rootA a)] := rfl
  rw [e0]
  have hF : ∀ i, i < 1 → ∀ (j : Nat) (z : AC), (regF [sideD y ceased (rootA a)] i)[j]? = some z → (∃ u, z = AC.raw u) ∨ (regF [y] i)[j]? = some z := fun i hi j z hz => by
    obtain rfl : i = 0 := by omega
    exact side_rows (x := sideD y ceased (rootA a)) (y := y) rfl rfl rfl rfl hz
  refine wD (Ends.made (.inr rfl) ((Reg.shutsO rrS rrE [y] [sideD y ceased (rootA a)] 6 (i1 := 8) (q := 9) (ad := ad) Nat.one_pos rfl rfl rfl rfl rfl rfl (fun i hi => ?_) hF).trans (Ent.pack [5, 6] (fill14Pack [sideD y ceased (rootA a)]) (by decide) rfl rfl (fun j i ch hi hj => ?_))) rfl (Nat.le_of_ble_eq_true rfl) rfl)
  · obtain rfl : i = 0 := by have : i < 1 := hi; omega
    rfl
  · rcases j with _ | _ | j
    · cases hi; cases hj; exact ⟨_, rfl, ChLe.refl _ rfl⟩
    · cases hi; cases hj; exact ⟨_, rfl, ChLe.refl _ rfl⟩
    · cases hi
end Go.Proofs.YtnpkdoggfnlapaaGreatDoor
namespace Go.Proofs.YtnpkdoggfnlapaaGreatDoor
set_option maxRecDepth 100000
open Go.Sx
theorem sideN_is {m : Int} (h1 : 1 ≤ m) (h2 : m ≤ 1000000000) : sideN m = { sideA with bal := m, fwd := m } := by
  have hr : roomI m = 1125899906842624 - m := wrap_id (by omega)
  have hok : fwdOKX sideA m = true := by
    have e1 : sideA.bal = 0 := rfl
    have e2 : sideA.fwd = 0 := rfl
    rw [fwdOKX, e1, e2, mayB, hr, decide_eq_false (show ¬ m < 1 by omega), decide_eq_true (show 0 ≤ m by omega), decide_eq_true (show m ≤ 1125899906842624 by omega), decide_eq_false (show ¬ 1125899906842624 - m < 0 by omega)]
    rfl
  have he : fwdE sideA m = 0 := by rw [fwdE, if_neg (by show ¬ false = true; decide), if_pos hok]
  have e1 : IntKind.i64.wrap (sideA.bal + m) = m := by rw [show sideA.bal = 0 from rfl, Int.zero_add]; exact wrap_id (by omega)
  have e2 : IntKind.i64.wrap (sideA.fwd + m) = m := by rw [show sideA.fwd = 0 from rfl, Int.zero_add]; exact wrap_id (by omega)
  rw [sideN, fwdX, if_pos he, e1, e2]
structure StartX (a : AcsM) (m : Int) (c : Bool) (x : SideM) : Prop where
  bal : x.bal = m
  clm : x.clm = 0
  used : x.used = []
  ceased : x.ceased = c
  root : x.root = rootA a
  par : x.par = mp
  cert : x.cert = cert0
theorem start_is (a : AcsM) {m : Int} (c : Bool) (h1 : 1 ≤ m) (h2 : m ≤ 1000000000) : StartX a m c (sideC a m c) := by
  have h := sideN_is h1 h2
  refine ⟨?_, ?_, ?_, rfl, rfl, ?_, ?_⟩
  · show (sideN m).bal = m; rw [h]
  · show (sideN m).clm = 0; rw [h]; rfl
  · show (sideN m).used = []; rw [h]; rfl
  · show (sideN m).par = mp; rw [h]; rfl
  · show (sideN m).cert = cert0; rw [h]; rfl
theorem keep_start {a : AcsM} {m : Int} {c : Bool} {x : SideM} (h : StartX a m c x) (h1 : 1 ≤ m) : KeepI m x USet.empty :=
  ⟨by rw [h.bal, h.clm]; omega, by rw [h.bal]; omega, by rw [h.clm]; exact Int.le_refl 0, by rw [h.clm]; rfl, by rw [h.used]; rfl, by rw [h.used]; exact List.Pairwise.nil, List.nodup_nil⟩
structure Kept (x : SideM) (k : Nat) : Prop where
  par : x.par = mp
  cert : x.cert = cert0
  used : x.used.length ≤ k
theorem Kept.sized {x : SideM} {k : Nat} (h : Kept x k) (hk : k ≤ 1000000) : x.Sized := by
  refine ⟨?_, ?_, ?_, Nat.le_trans h.used hk⟩
  · rw [h.par, mp_len]; decide
  · rw [h.cert]; decide
  · rw [h.cert]; decide
theorem StartX.kept {a : AcsM} {m : Int} {c : Bool} {x : SideM} (h : StartX a m c x) : Kept x 0 := ⟨h.par, h.cert, by rw [h.used]; exact Nat.le_refl _⟩
theorem take_first {a : AcsM} {m : Int} {x : SideM} (h : StartX a m true x) (hf : Fair a) {k : Nat} (hk : k < a.pl.length) (hm : (accA a k).amt ≤ m) (hm2 : m ≤ 1000000) (H : Int64) :
    ∃ x' S', takeE [x] USet.empty (claimN a k) H = (([x'], S'), 0) ∧ x'.bal = m - (accA a k).amt ∧ x'.clm = (accA a k).amt ∧ S'.total = (accA a k).amt ∧ S'.steps.length ≤ 1 ∧ Kept x' 1 ∧ Rising x'.used ∧ ∀ H', takeE [x'] S' (claimN a k) H' = (([x'], S'), 13) := by
  have h1 := claimN_ok (a := a) hk
  have h2 := claimN_side (a := a) hk
  have e2 := claimN_st (a := a) hk
  have ham := accA_amt a k
  have h3 : checkX x (claimN a k) = 0 := checkX_good h.ceased (by rw [h.used]; simp) (by rw [h.root]; exact claimN_proof hf hk) (by rw [e2, h.bal]; exact hm)
  have h4 : USet.empty.has (ptAt (claimID (claimN a k)) 0) = false := rfl
  have h64 : (Int64.ofInt (claimN a k).st.amt).toInt = (claimN a k).st.amt := amt64 h1
  have ht : USet.empty.total = 0 := rfl
  have h5 : USet.empty.okB (ptAt (claimID (claimN a k)) 0) ⟨(claimN a k).st.owner, Int64.ofInt (claimN a k).st.amt, H, false⟩ = true := okB_of h4 rfl (by show 1 ≤ (Int64.ofInt (claimN a k).st.amt).toInt; rw [h64, e2]; exact ham.1) (by rw [ht]; exact Int.le_refl 0) (by show USet.empty.total + (Int64.ofInt (claimN a k).st.amt).toInt ≤ _; rw [ht, h64, e2]; omega)
  have hp := (keep_start h (by omega)).paid (by omega) h1 h3 (k := ⟨(claimN a k).st.owner, Int64.ofInt (claimN a k).st.amt, H, false⟩) h4 h64
  refine ⟨_, _, take_paid h1 h2 h3 h4 h5, ?_, ?_, ?_, ?_, ⟨h.par, h.cert, ?_⟩, hp.1.up, fun H' => take_bad ?_ (by decide)⟩
  · rw [hp.2.1, h.bal, e2]
  · rw [hp.2.2, h.clm, e2, Int.zero_add]
  · rw [hp.1.tot, hp.2.2, h.clm, e2, Int.zero_add]
  · exact Nat.le_refl _
  · show (insU x.used _).length ≤ 1
    rw [insU_len, h.used]; exact Nat.le_refl _
  · rw [checkE_one h1 h2, checkX, if_neg (by show ¬ x.ceased = false; rw [h.ceased]; simp), if_pos (show (claimN a k).acct ∈ (takeX x (claimN a k)).used from mem_insU.2 (.inl rfl))]
def acs0 : AcsM := ⟨[5, 900], [3, 4]⟩
theorem acs0_fair : Fair acs0 := fair_of (by decide)
theorem acs0_amt : (accA acs0 1).amt = 5 := rfl
theorem awake_take : ∃ x' S', takeE [sideC acs0 20 true] USet.empty (claimN acs0 1) 30 = (([x'], S'), 0) ∧ x'.bal = 15 ∧ x'.clm = 5 ∧ S'.total = 5 ∧ S'.steps.length ≤ 1 ∧ Kept x' 1 ∧ Rising x'.used ∧ takeE [x'] S' (claimN acs0 1) 31 = (([x'], S'), 13) := by
  obtain ⟨x', S', h1, h2, h3, h4, h5, h6, h7, h8⟩ := take_first (start_is acs0 (m := 20) true (by decide) (by decide)) acs0_fair (k := 1) (by decide) (by rw [acs0_amt]; decide) (by decide) 30
  rw [acs0_amt] at h2 h3 h4
  exact ⟨x', S', h1, h2, h3, h4, h5, h6, h7, h8 31⟩
end Go.Proofs.YtnpkdoggfnlapaaGreatDoor
namespace Go.Proofs.YtnpkdoggfnlapaaGreatDoor
set_option maxRecDepth 100000
open Go.Sx
theorem take1_can (x : SideM) (S : USet) (c : ClaimM) (h : Int64) (hx : x.Sized) (hS : S.steps.length < 900000) (hr : Rising x.used) (hu : x.used.length < 900000) {x' : SideM} {S' : USet} {e : Int} (ht : takeE [x] S c h = (([x'], S'), e)) :
    Does Tryz.prog 20 [(.abs (pReg [x]), .abs (pReg [x'])), (.abs (usetP S), .abs (usetP S'))] [.box (claimTx c).ac, .plain (.one (.raw (.int .i64 h.toInt)))] [stepsP] (XV.int .i64 e) none := by
  have h1 := take_can [x] S c h (fun i hi => ?_) (by show 1 ≤ 1000; decide) hS (fun i hi => ?_)
  · rw [ht] at h1; exact h1
  · obtain rfl : i = 0 := by have : i < 1 := hi; omega
    exact hx
  · obtain rfl : i = 0 := by have : i < 1 := hi; omega
    exact ⟨hr, hu⟩
def awSt (x : SideM) : St :=
  ⟨[none, some (XV.sv (.ptr 1 0 0 0)), some (XV.sv (.ptr 4 0 0 0)), none, some (XV.sv (.ptr 5 0 0 0))] ++ List.replicate 58 none,
   [(0, .ext stepsP), (1, .cells 24 [.slc 2 1 0 2, .slc 3 1 0 2]), (2, .vec 25 1 2 (cutF [.int .u16 5, .int .u16 900] 1)), (3, .vec 25 1 2 (cutF [.int .u16 3, .int .u16 4] 1)), (4, .abs (pReg [x])), (5, .abs (usetP USet.empty))], 6⟩
def awSt2 (x : SideM) (S : USet) : St :=
  ⟨[none, none, some (XV.sv (.ptr 1 0 0 0)), none, some (XV.sv (.ptr 2 0 0 0)), some (XV.int .i64 0), some (XV.int .i64 13)] ++ List.replicate 56 none, [(0, .ext stepsP), (1, .abs (pReg [x])), (2, .abs (usetP S))], 3⟩
theorem row2 {a b : UInt16} {g : Nat → List Value} (h0 : g 0 = [u16 a]) (h1 : g 1 = [u16 b]) : ∀ i, i < 2 → rowW [a, b] i = g (0 + i) := fun i hi => by
  rw [Nat.zero_add]
  match i, hi with
  | 0, _ => exact h0.symm
  | 1, _ => exact h1.symm
set_option maxHeartbeats 8000000 in
theorem awake16 : Reads Tryz.prog 13 [] [stepsP] (XV.bool true) := by
  obtain ⟨x', S', t1, t2, t3, t4, t5, t6, t7, t8⟩ := awake_take
  have hst := start_is acs0 (m := 20) true (by decide) (by decide)
  refine Reads.of Tryz.T_ok Tryz.func13 rfl _ _ _ rfl rfl (fun C hC => ?_)
  (replace hC : C.n0 = 1 := hC; change Tri _ _ _ ⟨_, _, 1⟩ _)
  (refine Tri.cut 4 Tryz.mixed Tryz.T_ok ?_; ((conv => arg 5; whnf); repeat (refine xS ?_; conv => arg 5; whnf)))
  (apply wP; exact (call_op rfl (entersB_of Tryz.func18 (by kernel_rfl)) rfl ((fill16_can acs0 acs0_fair 20 true).at [2, 3] ⟨lend_acs (a := acs0) (lend_vecN (lo := 0) rfl rfl rfl (Nat.le_refl _) (row2 rfl rfl)) (lend_vecN (lo := 0) rfl rfl rfl (Nat.le_refl _) (row2 rfl rfl)), lend_plain rfl, lend_plain rfl, trivial⟩ trivial)); ((conv => arg 5; whnf); repeat (refine xS ?_; conv => arg 5; whnf)))
  (apply wP; exact (call_op rfl (entersB_of Tryz.func19 (by kernel_rfl)) rfl (new_spec)); ((conv => arg 5; whnf); repeat (refine xS ?_; conv => arg 5; whnf)))
  obtain ⟨y, hy⟩ : ∃ y, sideC acs0 20 true = y := ⟨_, rfl⟩
  rw [hy] at hst t1 ⊢
  refine wD <| cutG <| Tri.ent (Ent.unpack (c := 8) (l := fill14Pack [y]) rfl) <| Tri.ent (S' := awSt y) ?_ ?_
  · unfold awSt
    ((try dsimp only); refine Ent.renC [0, 5, 2, 3, 16, 14] hC ?_ ?_ <;> repeat' (first | exact trivial | exact rfl | exact ⟨_, rfl, rfl, rfl, Nat.le_refl _, fun _ _ => rfl⟩ | exact ⟨_, rfl, rfl, rfl, fun _ _ => rfl⟩ | exact ⟨_, rfl, rfl, rfl⟩ | exact ⟨_, rfl, rfl⟩ | refine ⟨_, rfl, rfl, rfl, by omega, fun k hk => ?_⟩ | refine ⟨?_, ?_⟩ | fail))
  unfold awSt
  have k1 := take1_can y USet.empty (claimN acs0 1) 30 (hst.kept.sized (by decide)) (by decide) (by rw [hst.used]; exact List.Pairwise.nil) (by rw [hst.used]; decide) t1
  have k2 := take1_can x' S' (claimN acs0 1) 31 (t6.sized (by decide)) (by omega) t7 (by have := t6.used; omega) t8
  have k3 := side_in [x'] 0 Nat.one_pos (t6.sized (by decide))
  rw [show [x'].getD 0 default = x' from rfl] at k3
  have kc := claim16_can acs0 acs0_fair 1 (by decide) 0
  rw [bendC_zero] at kc
  (refine Tri.cut 2 Tryz.mixed Tryz.T_ok ?_; ((conv => arg 5; whnf); repeat (refine xS ?_; conv => arg 5; whnf)))
  (apply wP; exact (call_op rfl (entersB_of Tryz.func17 (by kernel_rfl)) rfl (kc.at [2, 3] ⟨lend_acs (a := acs0) (lend_vecN (lo := 0) rfl rfl rfl (Nat.le_refl _) (row2 rfl rfl)) (lend_vecN (lo := 0) rfl rfl rfl (Nat.le_refl _) (row2 rfl rfl)), lend_plain rfl, lend_plain rfl, trivial⟩ trivial)); ((conv => arg 5; whnf); repeat (refine xS ?_; conv => arg 5; whnf)))
  (apply wP; exact (call_op rfl (entersB_of Tryz.func20 (by kernel_rfl)) rfl (k1.at2 [0] rfl rfl rfl rfl ⟨lend_tx (t := claimTx (claimN acs0 1)) (lend_nil _ _) (lend_nil _ _) (lend_nil _ _) (lend_nil _ _) (lend_nil _ _) (lend_nil _ _), lend_plain rfl, trivial⟩ ⟨lend_ext (c := 0) rfl rfl, trivial⟩)); ((conv => arg 5; whnf); repeat (refine xS ?_; conv => arg 5; whnf)))
  (apply wP; exact (call_op rfl (entersB_of Tryz.func17 (by kernel_rfl)) rfl (kc.at [2, 3] ⟨lend_acs (a := acs0) (lend_vecN (lo := 0) rfl rfl rfl (Nat.le_refl _) (row2 rfl rfl)) (lend_vecN (lo := 0) rfl rfl rfl (Nat.le_refl _) (row2 rfl rfl)), lend_plain rfl, lend_plain rfl, trivial⟩ trivial)); ((conv => arg 5; whnf); repeat (refine xS ?_; conv => arg 5; whnf)))
  (apply wP; exact (call_op rfl (entersB_of Tryz.func20 (by kernel_rfl)) rfl (k2.at2 [0] rfl rfl rfl rfl ⟨lend_tx (t := claimTx (claimN acs0 1)) (lend_nil _ _) (lend_nil _ _) (lend_nil _ _) (lend_nil _ _) (lend_nil _ _) (lend_nil _ _), lend_plain rfl, trivial⟩ ⟨lend_ext (c := 0) rfl rfl, trivial⟩)); ((conv => arg 5; whnf); repeat (refine xS ?_; conv => arg 5; whnf)))
  refine wD <| cutG <| Tri.ent (S' := awSt2 x' S') ?_ ?_
  · unfold awSt2
    ((try dsimp only); refine Ent.renC [0, 4, 5] hC ?_ ?_ <;> repeat' (first | exact trivial | exact rfl | exact ⟨_, rfl, rfl, rfl, Nat.le_refl _, fun _ _ => rfl⟩ | exact ⟨_, rfl, rfl, rfl, fun _ _ => rfl⟩ | exact ⟨_, rfl, rfl, rfl⟩ | exact ⟨_, rfl, rfl⟩ | refine ⟨_, rfl, rfl, rfl, by omega, fun k hk => ?_⟩ | refine ⟨?_, ?_⟩ | fail))
  unfold awSt2
  refine Tri.of Tryz.mixed Tryz.T_ok ?_
  (refine wBegin ?_; ((conv => arg 5; whnf); repeat (refine xS ?_; conv => arg 5; whnf)))
  (apply wP; exact (call_op rfl (entersB_of Tryz.func22 (by kernel_rfl)) rfl (k3.at1 [] rfl rfl rfl ⟨lend_plain rfl, trivial⟩ trivial)); ((conv => arg 5; whnf); repeat (refine xS ?_; conv => arg 5; whnf)))
  (refine wTd ?_ ?_; (first | refine decide_eq_true ?_ | rw [beq_iff_eq] | rw [bne_iff_ne]); exact (by (try simp only [ww] at *); omega); refine wGo ?_; ((conv => arg 5; whnf); repeat (refine xS ?_; conv => arg 5; whnf)))
  (refine wTd ?_ ?_; (first | refine decide_eq_true ?_ | rw [beq_iff_eq] | rw [bne_iff_ne]); exact (by (try simp only [ww] at *); omega); refine wGo ?_; ((conv => arg 5; whnf); repeat (refine xS ?_; conv => arg 5; whnf)))
  (apply wP; exact (call_op rfl (entersB_of Tryz.func23 (by kernel_rfl)) rfl (total_spec S' (c0 := 2) rfl rfl)); ((conv => arg 5; whnf); repeat (refine xS ?_; conv => arg 5; whnf)))
  exact wD (Ends.plain (.inr rfl) rfl (by rw [t4]; rfl))
end Go.Proofs.YtnpkdoggfnlapaaGreatDoor
namespace Go.Proofs.YtnpkdoggfnlapaaGreatDoor
set_option maxRecDepth 100000
open Go.Sx
theorem tm_nat {x n : Nat} (hx : x < 65536) : Int.tmod (IntKind.i64.wrap (x : Int)) (n : Int) = ((x % n : Nat) : Int) := by
  have e1 : IntKind.i64.wrap (x : Int) = (x : Int) := wrap_id (by omega)
  rw [e1, Int.tmod_eq_emod_of_nonneg (by omega), ← Int.natCast_emod]
end Go.Proofs.YtnpkdoggfnlapaaGreatDoor
namespace Go.Proofs.YtnpkdoggfnlapaaGreatDoor
set_option maxRecDepth 100000
open Go.Sx
def bendB (x : UInt16) (n : Nat) : UInt8 := UInt8.ofNat (x.toNat / 256 % n)
theorem bend_is (x : UInt16) (n : Nat) (h0 : 0 < n) (hn : 256 % n = 0) (hn2 : n ≤ 256) : Int.tmod (IntKind.u8.wrap (shrI .u16 ((x.toNat : Nat) : Int) 8)) (n : Int) = ((bendB x n).toNat : Int) := by
  have hx := x.toNat_lt
  have e1 : shrI .u16 ((x.toNat : Nat) : Int) 8 = ((x.toNat / 2 ^ 8 : Nat) : Int) := shr_nat .u16 x.toNat 8 (by decide)
  have e2 : IntKind.u8.wrap ((x.toNat / 2 ^ 8 : Nat) : Int) = ((x.toNat / 2 ^ 8 : Nat) : Int) := by
    show ((x.toNat / 2 ^ 8 : Nat) : Int) % 2 ^ 8 = _
    omega
  have h3 : x.toNat / 256 % n < 256 := Nat.lt_of_lt_of_le (Nat.mod_lt _ h0) hn2
  rw [e1, e2, Int.tmod_eq_emod_of_nonneg (by omega), ← Int.natCast_emod, bendB, UInt8.toNat_ofNat_of_lt' (by simpa [UInt8.size] using h3)]
structure KeepLI (l : List UInt16) where
  i : Nat
  x : SideM
  S : USet
  le : i ≤ l.length
  keep : KeepI 5000 x S
  kept : Kept x i
  steps : S.steps.length ≤ i
def kpMem (a : AcsM) (l : List UInt16) (x : SideM) (S : USet) : Mem :=
  [(0, .ro 1 a.pl.length (rowW a.pl)), (1, .ro 1 a.am.length (rowW a.am)), (2, .ro 1 l.length (rowW l)), (3, .ext stepsP), (4, .cells 24 [.slc 0 1 0 a.pl.length, .slc 1 1 0 a.am.length]), (5, .abs (pReg [x])), (6, .abs (usetP S))]
def kpSt (a : AcsM) (l : List UInt16) (x : SideM) (S : USet) (i : Option XV) : St :=
  ⟨[none, some (XV.sv (.slc 2 1 0 l.length)), some (XV.sv (.ptr 4 0 0 0)), none, none, some (XV.sv (.ptr 5 0 0 0)), none, some (XV.sv (.ptr 6 0 0 0)), i] ++ List.replicate 104 none, kpMem a l x S, 7⟩
def sideMem (x : SideM) (n : Nat) : Mem :=
  [(n, .cells 68 (sideSlc x (n + 1) (n + 2) (n + 3) (n + 4))), (n + 1, .vec 29 8 x.par.keys.length (keysF x.par.keys)), (n + 2, .vec 59 9 x.cert.outs.length (outsF x.cert.outs)), (n + 3, .vec 192 282 x.cert.sigs.length (sgdsF x.cert.sigs)), (n + 4, .vec 3 1 x.used.length (intsF x.used))]
def kpSt2 (a : AcsM) (l : List UInt16) (x : SideM) (S : USet) (i : Nat) (k : Option XV) : St :=
  ⟨[none, some (XV.sv (.slc 2 1 0 l.length)), some (XV.sv (.ptr 4 0 0 0)), none, none, some (XV.sv (.ptr 5 0 0 0)), none, some (XV.sv (.ptr 6 0 0 0)), some (XV.int .i64 i), some (XV.sv (.ptr 7 0 0 0)), some (XV.bool true), k] ++ List.replicate 101 none, kpMem a l x S ++ sideMem x 7, 12⟩
set_option maxHeartbeats 8000000 in
theorem ceaseKeeps_walk (a : AcsM) (l : List UInt16) (hl1 : a.pl.length ≤ maxLen) (hl2 : a.am.length ≤ maxLen) (hl : l.length ≤ maxLen) : Reads Tryz.prog 6 [.box a.ac, .row 1 l.length (rowW l)] [stepsP] (XV.bool true) := by
  refine Reads.of Tryz.T_ok Tryz.func6 rfl _ _ _ rfl rfl (fun C hC => ?_)
  (replace hC : C.n0 = 4 := hC; change Tri _ _ _ ⟨_, _, 4⟩ _)
  (refine Tri.cut 3 Tryz.mixed Tryz.T_ok ?_; ((conv => arg 5; whnf); repeat (refine xS ?_; conv => arg 5; whnf)))
  (apply wP; exact (call_op rfl (entersB_of Tryz.func13 (by kernel_rfl)) rfl (awake16.at [3] trivial ⟨lend_ext (c := 3) rfl rfl, trivial⟩)); ((conv => arg 5; whnf); repeat (refine xS ?_; conv => arg 5; whnf)))
  (apply wP; exact (call_op rfl (entersB_of Tryz.func14 (by kernel_rfl)) rfl ((fair_can a hl1 hl2).at [0, 1] ⟨lend_acs (lend_ro0 rfl rfl) (lend_ro0 rfl rfl), trivial⟩ trivial)); ((conv => arg 5; whnf); repeat (refine xS ?_; conv => arg 5; whnf)))
  refine wC (fun h1 => ?_) (fun h1 => ?_)
  · (refine wGo ?_; ((conv => arg 5; whnf); repeat (refine xS ?_; conv => arg 5; whnf)))
    exact wD <| cutR <| Ends.plain (.inr rfl) rfl rfl
  have hf : Fair a := fair_of (by simpa using h1)
  have f1 := hf.few
  (refine wGo ?_; ((conv => arg 5; whnf); repeat (refine xS ?_; conv => arg 5; whnf)))
  refine wC (fun h2 => ?_) (fun h2 => ?_)
  · (refine wGo ?_; ((conv => arg 5; whnf); repeat (refine xS ?_; conv => arg 5; whnf)))
    exact wD <| cutR <| Ends.plain (.inr rfl) rfl rfl
  have hn : l.length ≤ 12 := by simp only [decide_eq_false_iff_not] at h2; omega
  (refine wGo ?_; ((conv => arg 5; whnf); repeat (refine xS ?_; conv => arg 5; whnf)))
  refine wD <| cutG <| ?_
  (refine Tri.cut 2 Tryz.mixed Tryz.T_ok ?_; ((conv => arg 5; whnf); repeat (refine xS ?_; conv => arg 5; whnf)))
  (apply wP; exact (call_op rfl (entersB_of Tryz.func18 (by kernel_rfl)) rfl ((fill16_can a hf 5000 true).at [0, 1] ⟨lend_acs (lend_ro0 rfl rfl) (lend_ro0 rfl rfl), lend_plain rfl, lend_plain rfl, trivial⟩ trivial)); ((conv => arg 5; whnf); repeat (refine xS ?_; conv => arg 5; whnf)))
  (apply wP; exact (call_op rfl (entersB_of Tryz.func19 (by kernel_rfl)) rfl (new_spec)); ((conv => arg 5; whnf); repeat (refine xS ?_; conv => arg 5; whnf)))
  have hst := start_is a (m := 5000) true (by decide) (by decide)
  obtain ⟨z, hz⟩ : ∃ z, sideC a 5000 true = z := ⟨_, rfl⟩
  rw [hz] at hst ⊢
  refine wD <| cutG <| Tri.ent (Ent.unpack (c := 17) (l := fill14Pack [z]) rfl) <| Tri.ent (S' := kpSt a l z USet.empty none) ?_ ?_
  · unfold kpSt kpMem
    ((try dsimp only); refine Ent.renC [0, 1, 2, 3, 4, 25, 23] hC ?_ ?_ <;> repeat' (first | exact trivial | exact rfl | exact ⟨_, rfl, rfl, rfl, Nat.le_refl _, fun _ _ => rfl⟩ | exact ⟨_, rfl, rfl, rfl, fun _ _ => rfl⟩ | exact ⟨_, rfl, rfl, rfl⟩ | exact ⟨_, rfl, rfl⟩ | refine ⟨_, rfl, rfl, rfl, by omega, fun k hk => ?_⟩ | refine ⟨?_, ?_⟩ | fail))
  unfold kpSt kpMem
  (refine Tri.cut 1 Tryz.mixed Tryz.T_ok ?_; ((conv => arg 5; whnf); repeat (refine xS ?_; conv => arg 5; whnf)))
  refine wD <| cutG <| Tri.seq ?_
  (refine Tri.cut 1 Tryz.mixed Tryz.T_ok ?_; ((conv => arg 5; whnf); repeat (refine xS ?_; conv => arg 5; whnf)))
  refine wD <| cutG <| Tri.block ?_
  refine Tri.loop (α := KeepLI l) (fun p => kpSt a l p.x p.S (some (XV.int .i64 p.i))) (fun p => l.length - p.i) ⟨0, z, USet.empty, Nat.zero_le _, keep_start hst (by decide), hst.kept, Nat.le_refl _⟩ ?_ ?_
  · unfold kpSt kpMem
    ((try dsimp only); refine Ent.renC [0, 1, 2, 3, 4, 5, 6] hC ?_ ?_ <;> repeat' (first | exact trivial | exact rfl | exact ⟨_, rfl, rfl, rfl, Nat.le_refl _, fun _ _ => rfl⟩ | exact ⟨_, rfl, rfl, rfl, fun _ _ => rfl⟩ | exact ⟨_, rfl, rfl, rfl⟩ | exact ⟨_, rfl, rfl⟩ | refine ⟨_, rfl, rfl, rfl, by omega, fun k hk => ?_⟩ | refine ⟨?_, ?_⟩ | fail))
  rintro ⟨i, x, S, hi, hk, hkp, hs⟩
  dsimp only
  unfold kpSt kpMem
  (refine Tri.cut 1 Tryz.mixed Tryz.T_ok ?_; ((conv => arg 5; whnf); repeat (refine xS ?_; conv => arg 5; whnf)))
  refine wC (fun h3 => ?_) (fun h3 => ?_)
  · (refine wGo ?_; ((conv => arg 5; whnf); repeat (refine xS ?_; conv => arg 5; whnf)))
    have h3' : i < l.length := (by (try simp only [ww] at *); omega)
    refine wD <| cutG <| Tri.seq <| Tri.block ?_
    obtain ⟨c, hc⟩ : ∃ c, bendC (bendB (l.getD i 0) 8) (claimN a ((l.getD i 0).toNat % 13)) = c := ⟨_, rfl⟩
    have kc := claim16_can a hf ((l.getD i 0).toNat % 13) (by omega) (bendB (l.getD i 0) 8)
    rw [hc] at kc
    obtain ⟨x', S', e, t1, t2, t3, t4, t5, t6⟩ := hk.take (by decide) c (Int64.ofNat i)
    have hk' : Kept x' (i + 1) := ⟨t5.trans hkp.par, t6.trans hkp.cert, by have := hkp.used; omega⟩
    have k1 := take1_can x S c (Int64.ofNat i) (hkp.sized (by omega)) (by omega) hk.up (by have := hkp.used; omega) t1
    rw [← ofNat_toInt (by omega)] at k1
    have k3 := side_in [x'] 0 Nat.one_pos (hk'.sized (by omega))
    rw [show [x'].getD 0 default = x' from rfl] at k3
    have e13 : Int.tmod (IntKind.i64.wrap (((l.getD i 0).toNat : Nat) : Int)) 13 = (((l.getD i 0).toNat % 13 : Nat) : Int) := tm_nat (n := 13) (l.getD i 0).toNat_lt
    have e8 : Int.tmod (IntKind.u8.wrap (shrI .u16 (((l.getD i 0).toNat : Nat) : Int) 8)) 8 = ((bendB (l.getD i 0) 8).toNat : Int) := bend_is (l.getD i 0) 8 (by decide) (by decide) (by decide)
    (refine Tri.cut 2 Tryz.mixed Tryz.T_ok ?_; ((conv => arg 5; whnf); repeat (refine xS ?_; conv => arg 5; whnf)))
    (repeat (refine wN ?_ ?_; exact (by (try simp only [ww] at *); omega); refine wGo ?_; ((conv => arg 5; whnf); repeat (refine xS ?_; conv => arg 5; whnf))))
    simp only [Nat.zero_add, Int.toNat_natCast, e13, e8]
    (apply wP; exact (call_op rfl (entersB_of Tryz.func17 (by kernel_rfl)) rfl (kc.at [0, 1] ⟨lend_acs (lend_ro0 rfl rfl) (lend_ro0 rfl rfl), lend_plain rfl, lend_plain rfl, trivial⟩ trivial)); ((conv => arg 5; whnf); repeat (refine xS ?_; conv => arg 5; whnf)))
    (apply wP; exact (call_op rfl (entersB_of Tryz.func20 (by kernel_rfl)) rfl (k1.at2 [3] rfl rfl rfl rfl ⟨lend_tx (t := claimTx c) (lend_nil _ _) (lend_nil _ _) (lend_nil _ _) (lend_nil _ _) (lend_nil _ _) (lend_nil _ _), lend_plain rfl, trivial⟩ ⟨lend_ext (c := 3) rfl rfl, trivial⟩)); ((conv => arg 5; whnf); repeat (refine xS ?_; conv => arg 5; whnf)))
    (apply wP; exact (call_op rfl (entersB_of Tryz.func22 (by kernel_rfl)) rfl (k3.at1 [] rfl rfl rfl ⟨lend_plain rfl, trivial⟩ trivial)); ((conv => arg 5; whnf); repeat (refine xS ?_; conv => arg 5; whnf)))
    refine wD <| cutG <| Tri.ent (Ent.unpack (c := 31) (l := sideRows x') rfl) <| Tri.ent (S' := kpSt2 a l x' S' i none) ?_ ?_
    · unfold kpSt2 kpMem sideMem
      ((try dsimp only); refine Ent.renC [0, 1, 2, 3, 4, 5, 6, 35, 38, 39, 40, 41] hC ?_ ?_ <;> repeat' (first | exact trivial | exact rfl | exact ⟨_, rfl, rfl, rfl, Nat.le_refl _, fun _ _ => rfl⟩ | exact ⟨_, rfl, rfl, rfl, fun _ _ => rfl⟩ | exact ⟨_, rfl, rfl, rfl⟩ | exact ⟨_, rfl, rfl⟩ | refine ⟨_, rfl, rfl, rfl, by omega, fun k hk => ?_⟩ | refine ⟨?_, ?_⟩ | fail))
    have hb := t2.bal
    have hcl := t2.clm
    have hsm := t2.sum
    have htt := t2.tot
    have hln := t2.len
    have hul := hk'.used
    unfold kpSt2 kpMem sideMem
    (refine Tri.cut 2 Tryz.mixed Tryz.T_ok ?_; ((conv => arg 5; whnf); repeat (refine xS ?_; conv => arg 5; whnf)))
    (refine wFd ?_ ?_; (first | refine decide_eq_false ?_ | rw [beq_eq_false_iff_ne] | rw [bne_eq_false_iff_eq]); exact (by (try simp only [ww] at *); omega); refine wGo ?_; ((conv => arg 5; whnf); repeat (refine xS ?_; conv => arg 5; whnf)))
    (apply wP; exact (call_op rfl (entersB_of Tryz.func23 (by kernel_rfl)) rfl (total_spec S' (c0 := 6) rfl rfl)); ((conv => arg 5; whnf); repeat (refine xS ?_; conv => arg 5; whnf)))
    (refine wFd ?_ ?_; (first | refine decide_eq_false ?_ | rw [beq_eq_false_iff_ne] | rw [bne_eq_false_iff_eq]); exact (by (try simp only [ww] at *); omega); refine wGo ?_; ((conv => arg 5; whnf); repeat (refine xS ?_; conv => arg 5; whnf)))
    (apply wP; exact (call_op rfl (entersB_of Tryz.func25 (by kernel_rfl)) rfl (len_spec S' (c0 := 6) rfl rfl)); ((conv => arg 5; whnf); repeat (refine xS ?_; conv => arg 5; whnf)))
    (refine wFd ?_ ?_; (first | refine decide_eq_false ?_ | rw [beq_eq_false_iff_ne] | rw [bne_eq_false_iff_eq]); exact (by (try simp only [ww] at *); omega); refine wGo ?_; ((conv => arg 5; whnf); repeat (refine xS ?_; conv => arg 5; whnf)))
    (refine wFd ?_ ?_; (first | refine decide_eq_false ?_ | rw [beq_eq_false_iff_ne] | rw [bne_eq_false_iff_eq]); exact (by (try simp only [ww] at *); omega); refine wGo ?_; ((conv => arg 5; whnf); repeat (refine xS ?_; conv => arg 5; whnf)))
    refine wD <| cutG <| Tri.block ?_
    refine Tri.loop (α := { k : Nat // 1 ≤ k ∧ k ≤ x'.used.length + 1 }) (fun k => kpSt2 a l x' S' i (some (XV.int .i64 k.1))) (fun k => x'.used.length + 1 - k.1) ⟨1, Nat.le_refl _, by omega⟩ ?_ ?_
    · unfold kpSt2 kpMem sideMem
      ((try dsimp only); refine Ent.renC [0, 1, 2, 3, 4, 5, 6, 7, 8, 9, 10, 11] hC ?_ ?_ <;> repeat' (first | exact trivial | exact rfl | exact ⟨_, rfl, rfl, rfl, Nat.le_refl _, fun _ _ => rfl⟩ | exact ⟨_, rfl, rfl, rfl, fun _ _ => rfl⟩ | exact ⟨_, rfl, rfl, rfl⟩ | exact ⟨_, rfl, rfl⟩ | refine ⟨_, rfl, rfl, rfl, by omega, fun k hk => ?_⟩ | refine ⟨?_, ?_⟩ | fail))
    rintro ⟨k, hk1, hk2⟩
    dsimp only
    unfold kpSt2 kpMem sideMem
    (refine Tri.cut 1 Tryz.mixed Tryz.T_ok ?_; ((conv => arg 5; whnf); repeat (refine xS ?_; conv => arg 5; whnf)))
    refine wC (fun h5 => ?_) (fun h5 => ?_)
    · (refine wGo ?_; ((conv => arg 5; whnf); repeat (refine xS ?_; conv => arg 5; whnf)))
      have h5' : k < x'.used.length := (by (try simp only [ww] at *); omega)
      have hup : x'.used.getD (k - 1) 0 < x'.used.getD k 0 := rising_get t2.up (by omega) h5'
      have hw1 : IntKind.i64.wrap ((k : Int) - 1) = ((k - 1 : Nat) : Int) := (by (try simp only [ww] at *); omega)
      have hw2 : IntKind.i64.wrap ((k : Int) + 1) = ((k + 1 : Nat) : Int) := (by (try simp only [ww] at *); omega)
      refine wD <| cutG <| Tri.seq <| Tri.block <| Tri.of Tryz.mixed Tryz.T_ok ?_
      (refine wBegin ?_; ((conv => arg 5; whnf); repeat (refine xS ?_; conv => arg 5; whnf)))
      simp only [hw1]
      (repeat (refine wN ?_ ?_; exact (by (try simp only [ww] at *); omega); refine wGo ?_; ((conv => arg 5; whnf); repeat (refine xS ?_; conv => arg 5; whnf))))
      simp only [Nat.zero_add, Int.toNat_natCast]
      refine wFd (decide_eq_false ?_) ?_
      · rw [hw1, Int.toNat_natCast]; omega
      (refine wGo ?_; ((conv => arg 5; whnf); repeat (refine xS ?_; conv => arg 5; whnf)))
      refine wD <| blockN <| cutG <| Tri.of Tryz.mixed Tryz.T_ok ?_
      (refine wBegin ?_; ((conv => arg 5; whnf); repeat (refine xS ?_; conv => arg 5; whnf)))
      refine wD <| loopN ⟨⟨k + 1, by omega, by omega⟩, by dsimp only; omega, ?_⟩
      rw [hw2]
      ((try dsimp only); refine Ent.renC [0, 1, 2, 3, 4, 5, 6, 7, 8, 9, 10, 11] hC ?_ ?_ <;> repeat' (first | exact trivial | exact rfl | exact ⟨_, rfl, rfl, rfl, Nat.le_refl _, fun _ _ => rfl⟩ | exact ⟨_, rfl, rfl, rfl, fun _ _ => rfl⟩ | exact ⟨_, rfl, rfl, rfl⟩ | exact ⟨_, rfl, rfl⟩ | refine ⟨_, rfl, rfl, rfl, by omega, fun k hk => ?_⟩ | refine ⟨?_, ?_⟩ | fail))
    · (refine wGo ?_; ((conv => arg 5; whnf); repeat (refine xS ?_; conv => arg 5; whnf)))
      refine wD <| cutE <| loopX <| blockX <| blockN <| cutG <| Tri.of Tryz.mixed Tryz.T_ok ?_
      (refine wBegin ?_; ((conv => arg 5; whnf); repeat (refine xS ?_; conv => arg 5; whnf)))
      have hw : IntKind.i64.wrap ((i : Int) + 1) = ((i + 1 : Nat) : Int) := (by (try simp only [ww] at *); omega)
      refine wD <| loopN ⟨⟨i + 1, x', S', h3', t2, hk', by omega⟩, by dsimp only; omega, ?_⟩
      rw [hw]
      ((try dsimp only); refine Ent.renC [0, 1, 2, 3, 4, 5, 6] hC ?_ ?_ <;> repeat' (first | exact trivial | exact rfl | exact ⟨_, rfl, rfl, rfl, Nat.le_refl _, fun _ _ => rfl⟩ | exact ⟨_, rfl, rfl, rfl, fun _ _ => rfl⟩ | exact ⟨_, rfl, rfl, rfl⟩ | exact ⟨_, rfl, rfl⟩ | refine ⟨_, rfl, rfl, rfl, by omega, fun k hk => ?_⟩ | refine ⟨?_, ?_⟩ | fail))
  · (refine wGo ?_; ((conv => arg 5; whnf); repeat (refine xS ?_; conv => arg 5; whnf)))
    have h3' : i = l.length := (by (try simp only [ww] at *); omega)
    refine wD <| cutE <| loopX <| blockX <| cutG <| Tri.of Tryz.mixed Tryz.T_ok ?_
    (refine wBegin ?_; ((conv => arg 5; whnf); repeat (refine xS ?_; conv => arg 5; whnf)))
    exact wD (Ends.plain (.inr rfl) rfl rfl)
end Go.Proofs.YtnpkdoggfnlapaaGreatDoor
namespace Go.Proofs.YtnpkdoggfnlapaaGreatDoor
set_option maxRecDepth 100000
open Go.Sx Go.RowKit Go.ChangeShapes Go.WideShapes Go.ChangeAt
theorem own : ownKnob Tryz.prog.godebug = none := by kernel_rfl
theorem fits_u16 {v : Value} (h : (Kd.int .u16).fits v) : ∃ y : UInt16, v = u16 y := by
  obtain ⟨n, rfl, hw⟩ := h
  have e1 : IntKind.u16.min = 0 := rfl
  have e2 : IntKind.u16.max = 65535 := rfl
  simp [Lit.wf, e1, e2] at hw
  refine ⟨UInt16.ofNat n.toNat, ?_⟩
  simp only [u16, Value.int.injEq, true_and]
  have : (UInt16.ofNat n.toNat).toNat = n.toNat := UInt16.toNat_ofNat_of_lt' (by simp [UInt16.size]; omega)
  omega
theorem word_dec (cs : List Value) (h : Fits [.int .u16] cs) : ∃ x : UInt16, cs = [u16 x] := by
  obtain ⟨_, _, rfl, a0, rfl⟩ := h
  obtain ⟨b0, rfl⟩ := fits_u16 a0
  exact ⟨b0, rfl⟩
section
variable {H : Type} {enc : TypeId × Value → H} {W : World}
theorem open_words {v : Value} {d : DataW H} {p : List MemPlace} (h : DataW.Trod enc Tryz.prog W 0 (fun _ => true) true 22 v d p) (hv : Value.okWide Tryz.prog W .any 0 22 v) : ∃ l : List UInt16, l.length ≤ maxLen ∧ RowIn W v 1 l.length (rowW l) :=
  Go.Sx.open_row Tryz.T_ok (t := 22) (e := 25) rfl rfl rfl (f := 8) (ks := [.int .u16]) rfl h hv (fun x => [u16 x]) word_dec 0
theorem acs_types : Tryz.prog.cellTypes Tryz.prog.depth 24 = some [22, 22] := by kernel_rfl
set_option maxRecDepth 100000 in
theorem open_acs {v : Value} {d : DataW H} {p : List MemPlace} (h : DataW.Trod enc Tryz.prog W 0 (fun _ => true) true 24 v d p) (hv : Value.okWide Tryz.prog W .any 0 24 v) :
    ∃ a : AcsM, a.pl.length ≤ maxLen ∧ a.am.length ≤ maxLen ∧ Sx.Came W v (.box a.ac) := by
  have hv' := hv
  obtain ⟨v0, v1, y0, y1, n, rfl, _, _, h0, h1⟩ := Joins.open_agg2 Tryz.underlying24 (by kernel_rfl) (by kernel_rfl) hv h
  obtain ⟨l0, b0, k0⟩ := open_rowC Tryz.T_ok (t := 22) (e := 25) rfl rfl rfl (f := 8) (ks := [.int .u16]) rfl h0 (ok_cell Tryz.underlying24 acs_types hv' (i := 0) rfl rfl) (fun x => [u16 x]) word_dec 0
  obtain ⟨l1, b1, k1⟩ := open_rowC Tryz.T_ok (t := 22) (e := 25) rfl rfl rfl (f := 8) (ks := [.int .u16]) rfl h1 (ok_cell Tryz.underlying24 acs_types hv' (i := 1) rfl rfl) (fun x => [u16 x]) word_dec 0
  exact ⟨⟨l0, l1⟩, b0, b1, came_box ⟨k0, k1, trivial⟩⟩
end
theorem cell_lt {w : World} {a : Addr} {v : Value} (h : w.cell? a = some v) : a.block < w.heap.size := by
  by_cases hb : a.block < w.heap.size
  · exact hb
  · have e : w.heap[a.block]? = none := Array.getElem?_eq_none (by omega)
    simp [World.cell?, e] at h
theorem stepsG : Tryz.prog.globalNamed "drawbridge/hash.steps" = some 0 := by kernel_rfl
theorem stepsT : (Tryz.prog.globals[0]?).map (·.type) = some 227 := by kernel_rfl
set_option maxRecDepth 100000 in
theorem steps_came {W : World} (h : laidMetH Tryz.prog [("drawbridge/hash.steps", Rows.laid_drawbridge_hash_steps)] W) : CameX W [stepsP] := by
  rw [MakeChecks.laidMetH_plain _ _ _ (by kernel_rfl)] at h
  have hT : Lib.TabIs Tryz.prog W "drawbridge/hash.steps" .u32 stepL := Lib.tabIs_of_head (zs := stepL) (k := .u32) stepsG stepsT Tryz.underlying227 Tryz.underlying225 (by kernel_rfl) (by kernel_rfl) h
  refine ⟨came_ext ?_ fun i hi => ⟨rfl, fun j v hj => ?_⟩, trivial⟩
  · exact cell_lt (hT.cell stepsG 0 (by decide))
  · have hc := hT.cell stepsG i (by show i < 64; exact hi)
    cases j with
    | zero =>
      have hv : v = .int .u32 (stepL.getD i 0) := by simpa [wordsF, stepW, u32] using hj.symm
      rw [hv]
      show W.cell? ⟨0, i * 1 + 0, none⟩ = _
      rw [Nat.mul_one, Nat.add_zero]
      exact hc
    | succ j => simp [wordsF] at hj
theorem door_met (os : Os) (args : Array Value) : laidMetH Tryz.prog [("drawbridge/hash.steps", Rows.laid_drawbridge_hash_steps)] ((World.doorLaid Tryz.prog 14 os).forCall (fun _ _ => 0) ⟨#[], args, []⟩).memory :=
  laidMetH_of_parts3 (fuel := 8) (laidMet_of_run' 8 (by kernel_rfl) (by kernel_rfl)) (by kernel_rfl) (by kernel_rfl)
end Go.Proofs.YtnpkdoggfnlapaaGreatDoor
namespace Go.Proofs.YtnpkdoggfnlapaaGreatDoor
set_option maxRecDepth 100000
open Go.Sx Go.RowKit Go.ChangeShapes Go.WideShapes Go.ChangeAt
set_option maxRecDepth 100000 in
theorem ceaseKeeps_lifted (os : Os) (started : os.Started) (H : Type) (enc : TypeId × Value → H) :
    ReturnsInHanded {} Tryz.checked os 6 .any (fun w args => (Rows.ceaseKeepsSpec.pre enc Tryz.prog Tryz.f6 [] false w args ∧ laidMetH Tryz.prog [("drawbridge/hash.steps", Rows.laid_drawbridge_hash_steps)] w) ∧ sizedMet enc Tryz.prog Tryz.f6 (OpenSpec.ofChange Rows.ceaseKeepsSpec) false w args)
      (Rows.ceaseKeepsSpec.post enc Tryz.prog Tryz.f6 false true false false) := by
  refine returnsInHanded_of_change_and (C := Tryz.checked) (X := fun w _ => laidMetH Tryz.prog [("drawbridge/hash.steps", Rows.laid_drawbridge_hash_steps)] w) (fun _ _ _ hh h => h.of_heap hh) own started (by kernel_rfl) Tryz.func6
    (ChangeSpec.witness_shaped (enc := enc) (C := Tryz.checked) (os := os) (X := fun w _ => laidMetH Tryz.prog [("drawbridge/hash.steps", Rows.laid_drawbridge_hash_steps)] w) false (World.doorLaid Tryz.prog 14 os) #[.agg #[.slice none 0 0, .slice none 0 0], .slice none 0 0] 8 rfl (World.shaped_of_RefB (by kernel_rfl) (by kernel_rfl)) (by kernel_rfl) (by kernel_rfl) (by kernel_rfl) (door_met os _)) ?_
  intro W base args ds gs before hval0 hW _ _ hL _
  have hval : ∀ (j : Nat) t v, Tryz.f6.params[j]? = some t → args[j]? = some v → Value.okWide Tryz.prog W .any base t v := hval0
  have hW' := hW
  obtain ⟨p, q, hA0, hV, rfl, hfz, hnd⟩ := hW
  have hA : DataW.TrodAll enc Tryz.prog W 0 (fun _ => true) true Tryz.f6.params.toList args.toList ds p := hA0
  rw [Tryz.params6] at hA hval
  obtain ⟨v0, vs0, d0, ds0, p0, q0, hargs, rfl, rfl, h0, r0⟩ := trodAll_cons hA
  obtain ⟨v1, vs1, d1, ds1, p1, q1, rfl, rfl, rfl, h1, r1⟩ := trodAll_cons r0
  obtain ⟨rfl, rfl, rfl⟩ := trodAll_nil r1
  obtain rfl : args = #[v0, v1] := by cases args; simp_all
  obtain ⟨rfl, rfl⟩ := trodVars_none hV
  obtain ⟨a, b0, b1, k0⟩ := open_acs h0 (hval 0 24 v0 rfl rfl)
  obtain ⟨l, hl, k1⟩ := open_words h1 (hval 1 22 v1 rfl rfl)
  clear hA0 hval0
  refine ((ceaseKeeps_walk a l b0 b1 hl).calls (vs := [v0, v1]) ⟨k0, came_row k1, trivial⟩ (steps_came hL)).mono fun e W' ⟨v, β, he, hv, hb⟩ => ?_
  subst he
  simp only [XV.rel, CV.rel, SV.rel] at hv
  subst hv
  exact ⟨_, rfl, post_true laid hW' rfl (by kernel_rfl) hb rfl rfl (fun _ _ => trodAll_cons_mk (shut_bool Tryz.underlying4 _) trodAll_mk0)⟩
theorem ceaseKeeps_over : Rows.CeaseKeepsSaid :=
  OpenClaim.holds_of_wide 6 Tryz.f6 rfl rfl rfl rfl rfl rfl rfl ⟨rfl, rfl, rfl, rfl, rfl⟩ rfl rfl rfl rfl rfl (by kernel_rfl) Tryz.func6 (by kernel_rfl)
    (of_decide_eq_true (by kernel_rfl)) (by unfold Func.isWrapper; first | (rw [if_pos (by decide +kernel)]; kernel_rfl) | (rw [if_neg (by decide +kernel)]; exact ⟨rfl, rfl⟩))
    (fun os started H enc _ => ceaseKeeps_lifted os started H enc)
theorem each_ {P : TypeId → Prop} {a b : TypeId} (ha : P a) (hb : P b) : ∀ (j : Nat) t, (#[a, b] : Array TypeId)[j]? = some t → P t := by
  intro j t ht
  match j, ht with
  | 0, ht => simp at ht; subst ht; exact ha
  | 1, ht => simp at ht; subst ht; exact hb
  | j + 2, ht => simp at ht
theorem ceaseKeeps_proved : Rows.CeaseKeepsCardSaid :=
  Claim7.holds_tied_plain_at .later [] [.data] true (true, "6b02c825a31eb1d64ce8c0d48304d645abff5b6c9cb370d5267b4e4c1e322499") false
    ceaseKeeps_over (fun _ h => by cases h) (by kernel_rfl) (fun _ h => by cases h) ceaseKeeps_row_tie rfl ⟨rfl, rfl⟩ (by kernel_rfl) rfl
    (fun f fn hf hfn => by
      obtain rfl : f = 6 := Option.some.inj ((show Tryz.prog.funcNamed "drawbridge/drawbridgelaw16.CeaseKeeps" = some 6 by kernel_rfl).symm.trans hf) |>.symm
      obtain rfl : fn = Tryz.f6 := (Option.some.inj (Tryz.func6.symm.trans hfn)).symm
      refine ⟨by kernel_rfl, ?_⟩
      rw [Tryz.params6]
      exact each_ (show Tryz.prog.wantsStandIn 24 = false by kernel_rfl) (show Tryz.prog.wantsStandIn 22 = false by kernel_rfl))
    (by kernel_rfl)
end Go.Proofs.YtnpkdoggfnlapaaGreatDoor
