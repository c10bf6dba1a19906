/- Proved: whatever the input, drawbridgelaw16.CeaseAll returns true, and the input reads as it did; condition: the variable hash.steps holds what the program's text lays, and the card ties that to the text. -/
import Derived.Test.YtnpkdoggfnlapaaGreatDoorG23
import Derived.Test.YtnpkdoggfnlapaaGreatDoorG21
import Derived.Test.YtnpkdoggfnlapaaGreatDoorG12
import Derived.Test.YtnpkdoggfnlapaaGreatDoorG11
import Derived.LaidMore
import Derived.LaidHandle
import Derived.MakeChecks
import Derived.Stop.Joined
import Derived.Test.YtnpkdoggfnlapaaGreatDoorTie
import Derived.Test.YtnpkdoggfnlapaaGreatDoorCards
set_option linter.unusedSimpArgs false
set_option linter.unusedVariables false
namespace Go.Proofs.YtnpkdoggfnlapaaGreatDoor
set_option maxRecDepth 100000
open Go.Sx
theorem hashK : KeyL Tryz.prog 29 H8.v := KeyL.of (Maps.Keyed.of_law hash_law) H8.inj hash_key
theorem seen_map : Tryz.prog.underlying 27 = some (.map 29 4) := Tryz.underlying27
def alMem (a : AcsM) : Mem := [(0, .ro 1 a.pl.length (rowW a.pl)), (1, .ro 1 a.am.length (rowW a.am)), (4, .ext stepsP), (5, .cells 24 [.slc 0 1 0 a.pl.length, .slc 1 1 0 a.am.length])]
def alSt1 (a : AcsM) (t : UInt8) (ov : UInt16) (i : Nat) : St :=
  ⟨[none, some (XV.val (u8 t)), some (XV.val (u16 ov)), some (XV.sv (.ptr 5 0 0 0)), none, none, none, some (XV.int .i64 (amtN a i)), some (XV.sv (.map 6)), some (XV.int .i64 i)] ++ List.replicate 173 none,
   alMem a ++ [(6, .abs (MapP H8.v Value.bool (idsN a i)))], 7⟩
def alSt2 (a : AcsM) (t : UInt8) (ov : UInt16) (x : SideM) (S : USet) (i : Option XV) : St :=
  ⟨[none, some (XV.val (u8 t)), some (XV.val (u16 ov)), some (XV.sv (.ptr 5 0 0 0)), none, none, none, some (XV.int .i64 (amtN a a.pl.length)), none, none, none, none, some (XV.sv (.ptr 6 0 0 0)), none, some (XV.sv (.ptr 7 0 0 0)), i] ++ List.replicate 167 none,
   alMem a ++ [(6, .abs (pReg [x])), (7, .abs (usetP S))], 8⟩
set_option maxHeartbeats 8000000 in
theorem ceaseAll_walk (a : AcsM) (t : UInt8) (ov : UInt16) (hl1 : a.pl.length ≤ maxLen) (hl2 : a.am.length ≤ maxLen) : Reads Tryz.prog 3 [.box a.ac, .plain (.one (.raw (u8 t))), .plain (.one (.raw (u16 ov)))] [stepsP] (XV.bool true) := by
  refine Reads.of Tryz.T_ok Tryz.func3 rfl _ _ _ rfl rfl (fun C hC => ?_)
  (replace hC : C.n0 = 5 := hC; change Tri _ _ _ ⟨_, _, 5⟩ _)
  (refine Tri.cut 3 Tryz.mixed Tryz.T_ok ?_; ((conv => arg 5; whnf); repeat (refine xS ?_; conv => arg 5; whnf)))
  (apply wP; exact (call_op rfl (entersB_of Tryz.func13 (by kernel_rfl)) rfl (awake16.at [4] trivial ⟨lend_ext (c := 4) rfl rfl, trivial⟩)); ((conv => arg 5; whnf); repeat (refine xS ?_; conv => arg 5; whnf)))
  (apply wP; exact (call_op rfl (entersB_of Tryz.func14 (by kernel_rfl)) rfl ((fair_can a hl1 hl2).at [0, 1] ⟨lend_acs (lend_ro0 rfl rfl) (lend_ro0 rfl rfl), trivial⟩ trivial)); ((conv => arg 5; whnf); repeat (refine xS ?_; conv => arg 5; whnf)))
  refine wC (fun h1 => ?_) (fun h1 => ?_)
  · (refine wGo ?_; ((conv => arg 5; whnf); repeat (refine xS ?_; conv => arg 5; whnf)))
    exact wD <| cutR <| Ends.plain (.inr rfl) rfl rfl
  have hf : Fair a := fair_of (by simpa using h1)
  have f1 := hf.few
  have f2 := hf.le
  (refine wGo ?_; ((conv => arg 5; whnf); repeat (refine xS ?_; conv => arg 5; whnf)))
  refine wD <| cutG <| ?_
  (refine Tri.cut 2 Tryz.mixed Tryz.T_ok ?_; ((conv => arg 5; whnf); repeat (refine xS ?_; conv => arg 5; whnf)))
  (refine wP _ _ (makeMap_op H8.v Value.bool rfl) ?_; ((conv => arg 5; whnf); repeat (refine xS ?_; conv => arg 5; whnf)))
  refine wD <| cutG <| Tri.seq ?_
  (refine Tri.cut 1 Tryz.mixed Tryz.T_ok ?_; ((conv => arg 5; whnf); repeat (refine xS ?_; conv => arg 5; whnf)))
  refine wD <| cutG <| Tri.block ?_
  refine Tri.loop (α := { i : Nat // i ≤ a.pl.length }) (fun i => alSt1 a t ov i.1) (fun i => a.pl.length - i.1) ⟨0, Nat.zero_le _⟩ ?_ ?_
  · unfold alSt1 alMem
    ((try dsimp only); refine Ent.renC [0, 1, 2, 3, 4, 5, 13] hC ?_ ?_ <;> repeat' (first | exact trivial | exact rfl | exact ⟨_, rfl, rfl, rfl, Nat.le_refl _, fun _ _ => rfl⟩ | exact ⟨_, rfl, rfl, rfl, fun _ _ => rfl⟩ | exact ⟨_, rfl, rfl, rfl⟩ | exact ⟨_, rfl, rfl⟩ | refine ⟨_, rfl, rfl, rfl, by omega, fun k hk => ?_⟩ | refine ⟨?_, ?_⟩ | fail))
  rintro ⟨i, hi⟩
  dsimp only
  unfold alSt1 alMem
  (refine Tri.cut 1 Tryz.mixed Tryz.T_ok ?_; ((conv => arg 5; whnf); repeat (refine xS ?_; conv => arg 5; whnf)))
  refine wC (fun h3 => ?_) (fun h3 => ?_)
  · (refine wGo ?_; ((conv => arg 5; whnf); repeat (refine xS ?_; conv => arg 5; whnf)))
    have h3' : i < a.pl.length := (by (try simp only [ww] at *); omega)
    have hw : IntKind.i64.wrap ((i : Int) + 1) = ((i + 1 : Nat) : Int) := (by (try simp only [ww] at *); omega)
    have hai := amtN_le a i
    have hac := accA_amt a i
    have hs : IntKind.i64.wrap (amtN a i + (accA a i).amt) = amtN a (i + 1) := by rw [amtN]; exact wrap_id (by omega)
    have kc := claim16_can a hf i (by omega) 0
    rw [bendC_zero] at kc
    refine wD <| cutG <| Tri.seq <| Tri.block <| Tri.of Tryz.mixed Tryz.T_ok ?_
    (refine wBegin ?_; ((conv => arg 5; whnf); repeat (refine xS ?_; conv => arg 5; whnf)))
    (apply wP; exact (call_op rfl (entersB_of Tryz.func15 (by kernel_rfl)) rfl ((state_can a i (by omega) (by omega)).at [0, 1] ⟨lend_acs (lend_ro0 rfl rfl) (lend_ro0 rfl rfl), lend_plain rfl, trivial⟩ trivial)); ((conv => arg 5; whnf); repeat (refine xS ?_; conv => arg 5; whnf)))
    simp only [hs]
    (apply wP; exact (call_op rfl (entersB_of Tryz.func17 (by kernel_rfl)) rfl (kc.at [0, 1] ⟨lend_acs (lend_ro0 rfl rfl) (lend_ro0 rfl rfl), lend_plain rfl, lend_plain rfl, trivial⟩ trivial)); ((conv => arg 5; whnf); repeat (refine xS ?_; conv => arg 5; whnf)))
    (apply wP; exact (call_op rfl (entersB_of Tryz.func16 (by kernel_rfl)) rfl ((rid5_can (claimN a i) (claimN_ok h3')).at [] ⟨lend_tx (t := claimTx (claimN a i)) (lend_nil _ _) (lend_nil _ _) (lend_nil _ _) (lend_nil _ _) (lend_nil _ _) (lend_nil _ _), trivial⟩ trivial)); ((conv => arg 5; whnf); repeat (refine xS ?_; conv => arg 5; whnf)))
    (refine wP _ _ (update_op hashK seen_map rfl rfl (claimID (claimN a i)) true rfl rfl rfl) ?_; ((conv => arg 5; whnf); repeat (refine xS ?_; conv => arg 5; whnf)))
    refine wD <| blockN <| cutG <| Tri.of Tryz.mixed Tryz.T_ok ?_
    (refine wBegin ?_; ((conv => arg 5; whnf); repeat (refine xS ?_; conv => arg 5; whnf)))
    refine wD <| loopN ⟨⟨i + 1, h3'⟩, by dsimp only; omega, ?_⟩
    rw [hw]
    ((try dsimp only); refine Ent.renC [0, 1, 2, 3, 4, 5, 6] hC ?_ ?_ <;> repeat' (first | exact trivial | exact rfl | exact ⟨_, rfl, rfl, rfl, Nat.le_refl _, fun _ _ => rfl⟩ | exact ⟨_, rfl, rfl, rfl, fun _ _ => rfl⟩ | exact ⟨_, rfl, rfl, rfl⟩ | exact ⟨_, rfl, rfl⟩ | refine ⟨_, rfl, rfl, rfl, by omega, fun k hk => ?_⟩ | refine ⟨?_, ?_⟩ | fail))
  · (refine wGo ?_; ((conv => arg 5; whnf); repeat (refine xS ?_; conv => arg 5; whnf)))
    have h3' : i = a.pl.length := (by (try simp only [ww] at *); omega)
    subst h3'
    refine wD <| cutE <| loopX <| blockX <| cutG ?_
    (refine Tri.cut 1 Tryz.mixed Tryz.T_ok ?_; ((conv => arg 5; whnf); repeat (refine xS ?_; conv => arg 5; whnf)))
    (refine wP _ _ (mapLen_op seen_map rfl rfl rfl) ?_; ((conv => arg 5; whnf); repeat (refine xS ?_; conv => arg 5; whnf)))
    refine wC (fun h4 => ?_) (fun h4 => ?_)
    · (refine wGo ?_; ((conv => arg 5; whnf); repeat (refine xS ?_; conv => arg 5; whnf)))
      exact wD <| cutR <| Ends.plain (.inr rfl) rfl rfl
    have h4' : a.pl.length ≤ (idsN a a.pl.length).length := by simp only [decide_eq_false_iff_not] at h4; omega
    have hids := fun j k hj hk e => ids_apart h4' (j := j) (k := k) hj hk e
    have hsum := amtN_le a a.pl.length
    have hov := ov.toNat_lt
    obtain ⟨rest, hrest⟩ : ∃ rest : Int, 1 + (ov.toNat : Int) = rest := ⟨_, rfl⟩
    have hmon : IntKind.i64.wrap (IntKind.i64.wrap (amtN a a.pl.length + 1) + IntKind.i64.wrap (ov.toNat : Int)) = amtN a a.pl.length + rest := by
      rw [wrap_id (n := amtN a a.pl.length + 1) (by omega), wrap_id (n := (ov.toNat : Int)) (by omega), wrap_id (by omega)]
      omega
    (refine wGo ?_; ((conv => arg 5; whnf); repeat (refine xS ?_; conv => arg 5; whnf)))
    refine wD <| cutG ?_
    (refine Tri.cut 2 Tryz.mixed Tryz.T_ok ?_; ((conv => arg 5; whnf); repeat (refine xS ?_; conv => arg 5; whnf)))
    simp only [hmon]
    (apply wP; exact (call_op rfl (entersB_of Tryz.func18 (by kernel_rfl)) rfl ((fill16_can a hf (amtN a a.pl.length + rest) true).at [0, 1] ⟨lend_acs (lend_ro0 rfl rfl) (lend_ro0 rfl rfl), lend_plain rfl, lend_plain rfl, trivial⟩ trivial)); ((conv => arg 5; whnf); repeat (refine xS ?_; conv => arg 5; whnf)))
    (apply wP; exact (call_op rfl (entersB_of Tryz.func19 (by kernel_rfl)) rfl (new_spec)); ((conv => arg 5; whnf); repeat (refine xS ?_; conv => arg 5; whnf)))
    have hst := start_is a (m := amtN a a.pl.length + rest) true (by omega) (by omega)
    obtain ⟨z, hz⟩ : ∃ z, sideC a (amtN a a.pl.length + rest) true = z := ⟨_, rfl⟩
    rw [hz] at hst ⊢
    refine wD <| cutG <| Tri.ent (Ent.unpack (c := 24) (l := fill14Pack [z]) rfl) <| Tri.ent (S' := alSt2 a t ov z USet.empty none) ?_ ?_
    · unfold alSt2 alMem
      ((try dsimp only); refine Ent.renC [0, 1, 2, 3, 4, 5, 32, 30] hC ?_ ?_ <;> repeat' (first | exact trivial | exact rfl | exact ⟨_, rfl, rfl, rfl, Nat.le_refl _, fun _ _ => rfl⟩ | exact ⟨_, rfl, rfl, rfl, fun _ _ => rfl⟩ | exact ⟨_, rfl, rfl, rfl⟩ | exact ⟨_, rfl, rfl⟩ | refine ⟨_, rfl, rfl, rfl, by omega, fun k hk => ?_⟩ | refine ⟨?_, ?_⟩ | fail))
    have hr1 : 1 ≤ rest := by omega
    have hr2 : rest ≤ 100000 := by omega
    unfold alSt2 alMem
    (refine Tri.cut 1 Tryz.mixed Tryz.T_ok ?_; ((conv => arg 5; whnf); repeat (refine xS ?_; conv => arg 5; whnf)))
    refine wD <| cutG <| Tri.seq ?_
    (refine Tri.cut 1 Tryz.mixed Tryz.T_ok ?_; ((conv => arg 5; whnf); repeat (refine xS ?_; conv => arg 5; whnf)))
    refine wD <| cutG <| Tri.block ?_
    refine Tri.loop (α := AllLI a rest t.toNat) (fun p => alSt2 a t ov p.x p.S (some (XV.int .i64 p.i))) (fun p => a.pl.length - p.i) (AllLI.first hst hr1) ?_ ?_
    · unfold alSt2 alMem
      ((try dsimp only); refine Ent.renC [0, 1, 2, 3, 4, 5, 6, 7] hC ?_ ?_ <;> repeat' (first | exact trivial | exact rfl | exact ⟨_, rfl, rfl, rfl, Nat.le_refl _, fun _ _ => rfl⟩ | exact ⟨_, rfl, rfl, rfl, fun _ _ => rfl⟩ | exact ⟨_, rfl, rfl, rfl⟩ | exact ⟨_, rfl, rfl⟩ | refine ⟨_, rfl, rfl, rfl, by omega, fun k hk => ?_⟩ | refine ⟨?_, ?_⟩ | fail))
    intro p
    have hend := @all_end a rest t.toNat p
    obtain ⟨i, x, S, hi, hkp, hup, hs, hsome, hnone⟩ := p
    dsimp only at hend ⊢
    unfold alSt2 alMem
    (refine Tri.cut 1 Tryz.mixed Tryz.T_ok ?_; ((conv => arg 5; whnf); repeat (refine xS ?_; conv => arg 5; whnf)))
    refine wC (fun h5 => ?_) (fun h5 => ?_)
    · (refine wGo ?_; ((conv => arg 5; whnf); repeat (refine xS ?_; conv => arg 5; whnf)))
      have h5' : i < a.pl.length := (by (try simp only [ww] at *); omega)
      have hn : 0 < a.pl.length := by omega
      have htl := t.toNat_lt
      have hw : IntKind.i64.wrap ((i : Int) + 1) = ((i + 1 : Nat) : Int) := (by (try simp only [ww] at *); omega)
      obtain ⟨x', S', t1, t2, t3, t4, t5, t6, t7, t8⟩ := (hsome hn).step hf ⟨by omega, hr2⟩ (Nat.mod_lt _ hn) h5' hids 30
      rw [next_is] at t1 t2 t4 t5
      have hk := Nat.mod_lt (i + t.toNat) hn
      have hek : Int.tmod (IntKind.i64.wrap ((i : Int) + IntKind.i64.wrap (t.toNat : Int))) (a.pl.length : Int) = (((i + t.toNat) % a.pl.length : Nat) : Int) := by
        rw [wrap_id (n := (t.toNat : Int)) (by omega), ← Int.natCast_add]
        exact tm_nat (by omega)
      obtain ⟨k, hkk⟩ : ∃ k, (i + t.toNat) % a.pl.length = k := ⟨_, rfl⟩
      rw [hkk] at t1 t2 t4 t5 hk hek
      have hok := claimN_ok (a := a) hk
      have hst' := claimN_st (a := a) hk
      have ham := accA_amt a k
      have h64 : (Int64.ofInt (accA a k).amt).toInt = (accA a k).amt := by have := amt64 hok; rwa [hst'] at this
      have kc := claim16_can a hf k (by omega) 0
      rw [bendC_zero] at kc
      have hk' : Kept x' (i + 1) := ⟨t7.trans hkp.par, t8.trans hkp.cert, by rw [t3.many]; exact Nat.le_refl _⟩
      have hul := hkp.used
      have hul' := hk'.used
      have k1 := take1_can x S (claimN a k) 30 (hkp.sized (by omega)) (by omega) hup (by omega) t1
      have k2 := take1_can x' S' (claimN a k) 30 (hk'.sized (by omega)) (by omega) t3.keep.up (by omega) t2
      have cget := @get_spec S' (ptAt (claimID (claimN a k)) 0)
      rw [t4, t5] at cget
      obtain ⟨c, hc⟩ : ∃ c, claimN a k = c := ⟨_, rfl⟩
      rw [hc] at k1 k2 kc hok cget
      refine wD <| cutG <| Tri.seq <| Tri.block ?_
      (refine Tri.cut 3 Tryz.mixed Tryz.T_ok ?_; ((conv => arg 5; whnf); repeat (refine xS ?_; conv => arg 5; whnf)))
      (refine wN ?_ ?_; exact (by (try simp only [ww] at *); omega); refine wGo ?_; ((conv => arg 5; whnf); repeat (refine xS ?_; conv => arg 5; whnf)))
      simp only [hek]
      (apply wP; exact (call_op rfl (entersB_of Tryz.func17 (by kernel_rfl)) rfl (kc.at [0, 1] ⟨lend_acs (lend_ro0 rfl rfl) (lend_ro0 rfl rfl), lend_plain rfl, lend_plain rfl, trivial⟩ trivial)); ((conv => arg 5; whnf); repeat (refine xS ?_; conv => arg 5; whnf)))
      (apply wP; exact (call_op rfl (entersB_of Tryz.func20 (by kernel_rfl)) rfl (k1.at2 [4] rfl rfl rfl rfl ⟨lend_tx (t := claimTx c) (lend_nil _ _) (lend_nil _ _) (lend_nil _ _) (lend_nil _ _) (lend_nil _ _) (lend_nil _ _), lend_plain rfl, trivial⟩ ⟨lend_ext (c := 4) rfl rfl, trivial⟩)); ((conv => arg 5; whnf); repeat (refine xS ?_; conv => arg 5; whnf)))
      (apply wP; exact (call_op rfl (entersB_of Tryz.func20 (by kernel_rfl)) rfl (k2.at2 [4] rfl rfl rfl rfl ⟨lend_tx (t := claimTx c) (lend_nil _ _) (lend_nil _ _) (lend_nil _ _) (lend_nil _ _) (lend_nil _ _) (lend_nil _ _), lend_plain rfl, trivial⟩ ⟨lend_ext (c := 4) rfl rfl, trivial⟩)); ((conv => arg 5; whnf); repeat (refine xS ?_; conv => arg 5; whnf)))
      refine wD <| cutG <| Tri.of Tryz.mixed Tryz.T_ok ?_
      (refine wBegin ?_; ((conv => arg 5; whnf); repeat (refine xS ?_; conv => arg 5; whnf)))
      (apply wP; exact (call_op rfl (entersB_of Tryz.func16 (by kernel_rfl)) rfl ((rid5_can c hok).at [] ⟨lend_tx (t := claimTx c) (lend_nil _ _) (lend_nil _ _) (lend_nil _ _) (lend_nil _ _) (lend_nil _ _) (lend_nil _ _), trivial⟩ trivial)); ((conv => arg 5; whnf); repeat (refine xS ?_; conv => arg 5; whnf)))
      (apply wP; exact (call_op rfl (entersB_of Tryz.func21 (by kernel_rfl)) rfl (cget (c0 := 7) rfl rfl)); ((conv => arg 5; whnf); repeat (refine xS ?_; conv => arg 5; whnf)))
      (apply wP; exact (call_op rfl (entersB_of Tryz.func15 (by kernel_rfl)) rfl ((state_can a k (by omega) (by omega)).at [0, 1] ⟨lend_acs (lend_ro0 rfl rfl) (lend_ro0 rfl rfl), lend_plain rfl, trivial⟩ trivial)); ((conv => arg 5; whnf); repeat (refine xS ?_; conv => arg 5; whnf)))
      (refine wP _ _ (neq_op hashE rfl (accA a k).owner (accA a k).owner rfl rfl) ?_; ((conv => arg 5; whnf); repeat (refine xS ?_; conv => arg 5; whnf)))
      refine wFd (by simp) ?_
      (refine wGo ?_; ((conv => arg 5; whnf); repeat (refine xS ?_; conv => arg 5; whnf)))
      (apply wP; exact (call_op rfl (entersB_of Tryz.func15 (by kernel_rfl)) rfl ((state_can a k (by omega) (by omega)).at [0, 1] ⟨lend_acs (lend_ro0 rfl rfl) (lend_ro0 rfl rfl), lend_plain rfl, trivial⟩ trivial)); ((conv => arg 5; whnf); repeat (refine xS ?_; conv => arg 5; whnf)))
      refine wFd (by show ((Int64.ofInt (accA a k).amt).toInt != (accA a k).amt) = false; rw [h64]; simp) ?_
      (refine wGo ?_; ((conv => arg 5; whnf); repeat (refine xS ?_; conv => arg 5; whnf)))
      repeat (first | (refine wFd rfl ?_; refine wGo ?_; ((conv => arg 5; whnf); repeat (refine xS ?_; conv => arg 5; whnf))) | (refine wTd rfl ?_; refine wGo ?_; ((conv => arg 5; whnf); repeat (refine xS ?_; conv => arg 5; whnf))))
      refine wD <| blockN <| cutG <| Tri.of Tryz.mixed Tryz.T_ok ?_
      (refine wBegin ?_; ((conv => arg 5; whnf); repeat (refine xS ?_; conv => arg 5; whnf)))
      refine wD <| loopN ⟨⟨i + 1, x', S', h5', hk', t3.keep.up, by omega, fun _ => t3, fun h => absurd hn (by omega)⟩, by dsimp only; omega, ?_⟩
      rw [hw]
      ((try dsimp only); refine Ent.renC [0, 1, 2, 3, 4, 5, 6, 7] hC ?_ ?_ <;> repeat' (first | exact trivial | exact rfl | exact ⟨_, rfl, rfl, rfl, Nat.le_refl _, fun _ _ => rfl⟩ | exact ⟨_, rfl, rfl, rfl, fun _ _ => rfl⟩ | exact ⟨_, rfl, rfl, rfl⟩ | exact ⟨_, rfl, rfl⟩ | refine ⟨_, rfl, rfl, rfl, by omega, fun k hk => ?_⟩ | refine ⟨?_, ?_⟩ | fail))
    · (refine wGo ?_; ((conv => arg 5; whnf); repeat (refine xS ?_; conv => arg 5; whnf)))
      have h5' : i = a.pl.length := (by (try simp only [ww] at *); omega)
      obtain ⟨e1, e2, e3, e4⟩ := hend h5'
      have k3 := side_in [x] 0 Nat.one_pos (hkp.sized (by omega))
      rw [show [x].getD 0 default = x from rfl] at k3
      have hov2 : IntKind.i64.wrap (1 + IntKind.i64.wrap (ov.toNat : Int)) = rest := by
        rw [wrap_id (n := (ov.toNat : Int)) (by omega), wrap_id (by omega)]
        exact hrest
      refine wD <| cutE <| loopX <| blockX <| cutG ?_
      (refine Tri.cut 1 Tryz.mixed Tryz.T_ok ?_; ((conv => arg 5; whnf); repeat (refine xS ?_; conv => arg 5; whnf)))
      (apply wP; exact (call_op rfl (entersB_of Tryz.func22 (by kernel_rfl)) rfl (k3.at1 [] rfl rfl rfl ⟨lend_plain rfl, trivial⟩ trivial)); ((conv => arg 5; whnf); repeat (refine xS ?_; conv => arg 5; whnf)))
      refine wD <| cutG <| Tri.ent (Ent.unpack (c := 14) (l := sideRows x) rfl) <| Tri.of Tryz.mixed Tryz.T_ok ?_
      (refine wBegin ?_; ((conv => arg 5; whnf); repeat (refine xS ?_; conv => arg 5; whnf)))
      (refine wTd ?_ ?_; (first | refine decide_eq_true ?_ | rw [beq_iff_eq] | rw [bne_iff_ne]); exact (by (try simp only [ww] at *); omega); refine wGo ?_; ((conv => arg 5; whnf); repeat (refine xS ?_; conv => arg 5; whnf)))
      refine wTd (by rw [hov2, e2]; simp) ?_
      (refine wGo ?_; ((conv => arg 5; whnf); repeat (refine xS ?_; conv => arg 5; whnf)))
      refine wTd (by rw [e3]; simp) ?_
      (refine wGo ?_; ((conv => arg 5; whnf); repeat (refine xS ?_; conv => arg 5; whnf)))
      (apply wP; exact (call_op rfl (entersB_of Tryz.func23 (by kernel_rfl)) rfl (total_spec S (c0 := 7) rfl rfl)); ((conv => arg 5; whnf); repeat (refine xS ?_; conv => arg 5; whnf)))
      exact wD (Ends.plain (.inr rfl) rfl (by rw [e4]; simp))
end Go.Proofs.YtnpkdoggfnlapaaGreatDoor
namespace Go.Proofs.YtnpkdoggfnlapaaGreatDoor
set_option maxRecDepth 100000
open Go.Sx Go.RowKit Go.ChangeShapes Go.WideShapes Go.ChangeAt
theorem own : ownKnob Tryz.prog.godebug = none := by kernel_rfl
theorem fits_u8 {v : Value} (h : (Kd.int .u8).fits v) : ∃ y : UInt8, v = u8 y := by
  obtain ⟨n, rfl, hw⟩ := h
  have e1 : IntKind.u8.min = 0 := rfl
  have e2 : IntKind.u8.max = 255 := rfl
  simp [Lit.wf, e1, e2] at hw
  refine ⟨UInt8.ofNat n.toNat, ?_⟩
  simp only [u8, Value.int.injEq, true_and]
  have : (UInt8.ofNat n.toNat).toNat = n.toNat := UInt8.toNat_ofNat_of_lt' (by simp [UInt8.size]; omega)
  omega
theorem fits_u16 {v : Value} (h : (Kd.int .u16).fits v) : ∃ y : UInt16, v = u16 y := by
  obtain ⟨n, rfl, hw⟩ := h
  have e1 : IntKind.u16.min = 0 := rfl
  have e2 : IntKind.u16.max = 65535 := rfl
  simp [Lit.wf, e1, e2] at hw
  refine ⟨UInt16.ofNat n.toNat, ?_⟩
  simp only [u16, Value.int.injEq, true_and]
  have : (UInt16.ofNat n.toNat).toNat = n.toNat := UInt16.toNat_ofNat_of_lt' (by simp [UInt16.size]; omega)
  omega
theorem word_dec (cs : List Value) (h : Fits [.int .u16] cs) : ∃ x : UInt16, cs = [u16 x] := by
  obtain ⟨_, _, rfl, a0, rfl⟩ := h
  obtain ⟨b0, rfl⟩ := fits_u16 a0
  exact ⟨b0, rfl⟩
section
variable {H : Type} {enc : TypeId × Value → H} {W : World}
theorem open_u8 {v : Value} {d : DataW H} {p : List MemPlace} (h : DataW.Trod enc Tryz.prog W 0 (fun _ => true) true 5 v d p) (hv : Value.okWide Tryz.prog W .any 0 5 v) : ∃ x : UInt8, v = u8 x := by
  obtain ⟨n, rfl, _, hw⟩ := open_int Tryz.underlying5 hv h
  exact fits_u8 ⟨n, rfl, hw.2⟩
theorem open_u16 {v : Value} {d : DataW H} {p : List MemPlace} (h : DataW.Trod enc Tryz.prog W 0 (fun _ => true) true 25 v d p) (hv : Value.okWide Tryz.prog W .any 0 25 v) : ∃ x : UInt16, v = u16 x := by
  obtain ⟨n, rfl, _, hw⟩ := open_int Tryz.underlying25 hv h
  exact fits_u16 ⟨n, rfl, hw.2⟩
theorem acs_types : Tryz.prog.cellTypes Tryz.prog.depth 24 = some [22, 22] := by kernel_rfl
set_option maxRecDepth 100000 in
theorem open_acs {v : Value} {d : DataW H} {p : List MemPlace} (h : DataW.Trod enc Tryz.prog W 0 (fun _ => true) true 24 v d p) (hv : Value.okWide Tryz.prog W .any 0 24 v) :
    ∃ a : AcsM, a.pl.length ≤ maxLen ∧ a.am.length ≤ maxLen ∧ Sx.Came W v (.box a.ac) := by
  have hv' := hv
  obtain ⟨v0, v1, y0, y1, n, rfl, _, _, h0, h1⟩ := Joins.open_agg2 Tryz.underlying24 (by kernel_rfl) (by kernel_rfl) hv h
  obtain ⟨l0, b0, k0⟩ := open_rowC Tryz.T_ok (t := 22) (e := 25) rfl rfl rfl (f := 8) (ks := [.int .u16]) rfl h0 (ok_cell Tryz.underlying24 acs_types hv' (i := 0) rfl rfl) (fun x => [u16 x]) word_dec 0
  obtain ⟨l1, b1, k1⟩ := open_rowC Tryz.T_ok (t := 22) (e := 25) rfl rfl rfl (f := 8) (ks := [.int .u16]) rfl h1 (ok_cell Tryz.underlying24 acs_types hv' (i := 1) rfl rfl) (fun x => [u16 x]) word_dec 0
  exact ⟨⟨l0, l1⟩, b0, b1, came_box ⟨k0, k1, trivial⟩⟩
end
theorem cell_lt {w : World} {a : Addr} {v : Value} (h : w.cell? a = some v) : a.block < w.heap.size := by
  by_cases hb : a.block < w.heap.size
  · exact hb
  · have e : w.heap[a.block]? = none := Array.getElem?_eq_none (by omega)
    simp [World.cell?, e] at h
theorem stepsG : Tryz.prog.globalNamed "drawbridge/hash.steps" = some 0 := by kernel_rfl
theorem stepsT : (Tryz.prog.globals[0]?).map (·.type) = some 227 := by kernel_rfl
set_option maxRecDepth 100000 in
theorem steps_came {W : World} (h : laidMetH Tryz.prog [("drawbridge/hash.steps", Rows.laid_drawbridge_hash_steps)] W) : CameX W [stepsP] := by
  rw [MakeChecks.laidMetH_plain _ _ _ (by kernel_rfl)] at h
  have hT : Lib.TabIs Tryz.prog W "drawbridge/hash.steps" .u32 stepL := Lib.tabIs_of_head (zs := stepL) (k := .u32) stepsG stepsT Tryz.underlying227 Tryz.underlying225 (by kernel_rfl) (by kernel_rfl) h
  refine ⟨came_ext ?_ fun i hi => ⟨rfl, fun j v hj => ?_⟩, trivial⟩
  · exact cell_lt (hT.cell stepsG 0 (by decide))
  · have hc := hT.cell stepsG i (by show i < 64; exact hi)
    cases j with
    | zero =>
      have hv : v = .int .u32 (stepL.getD i 0) := by simpa [wordsF, stepW, u32] using hj.symm
      rw [hv]
      show W.cell? ⟨0, i * 1 + 0, none⟩ = _
      rw [Nat.mul_one, Nat.add_zero]
      exact hc
    | succ j => simp [wordsF] at hj
theorem door_met (os : Os) (args : Array Value) : laidMetH Tryz.prog [("drawbridge/hash.steps", Rows.laid_drawbridge_hash_steps)] ((World.doorLaid Tryz.prog 14 os).forCall (fun _ _ => 0) ⟨#[], args, []⟩).memory :=
  laidMetH_of_parts3 (fuel := 8) (laidMet_of_run' 8 (by kernel_rfl) (by kernel_rfl)) (by kernel_rfl) (by kernel_rfl)
end Go.Proofs.YtnpkdoggfnlapaaGreatDoor
namespace Go.Proofs.YtnpkdoggfnlapaaGreatDoor
set_option maxRecDepth 100000
open Go.Sx Go.RowKit Go.ChangeShapes Go.WideShapes Go.ChangeAt
set_option maxRecDepth 100000 in
theorem ceaseAll_lifted (os : Os) (started : os.Started) (H : Type) (enc : TypeId × Value → H) :
    ReturnsInHanded {} Tryz.checked os 3 .any (fun w args => (Rows.ceaseAllSpec.pre enc Tryz.prog Tryz.f3 [] false w args ∧ laidMetH Tryz.prog [("drawbridge/hash.steps", Rows.laid_drawbridge_hash_steps)] w) ∧ sizedMet enc Tryz.prog Tryz.f3 (OpenSpec.ofChange Rows.ceaseAllSpec) false w args)
      (Rows.ceaseAllSpec.post enc Tryz.prog Tryz.f3 false true false false) := by
  refine returnsInHanded_of_change_and (C := Tryz.checked) (X := fun w _ => laidMetH Tryz.prog [("drawbridge/hash.steps", Rows.laid_drawbridge_hash_steps)] w) (fun _ _ _ hh h => h.of_heap hh) own started (by kernel_rfl) Tryz.func3
    (ChangeSpec.witness_shaped (enc := enc) (C := Tryz.checked) (os := os) (X := fun w _ => laidMetH Tryz.prog [("drawbridge/hash.steps", Rows.laid_drawbridge_hash_steps)] w) false (World.doorLaid Tryz.prog 14 os) #[.agg #[.slice none 0 0, .slice none 0 0], .int .u8 0, .int .u16 0] 8 rfl (World.shaped_of_RefB (by kernel_rfl) (by kernel_rfl)) (by kernel_rfl) (by kernel_rfl) (by kernel_rfl) (door_met os _)) ?_
  intro W base args ds gs before hval0 hW _ _ hL _
  have hval : ∀ (j : Nat) t v, Tryz.f3.params[j]? = some t → args[j]? = some v → Value.okWide Tryz.prog W .any base t v := hval0
  have hW' := hW
  obtain ⟨p, q, hA0, hV, rfl, hfz, hnd⟩ := hW
  have hA : DataW.TrodAll enc Tryz.prog W 0 (fun _ => true) true Tryz.f3.params.toList args.toList ds p := hA0
  rw [Tryz.params3] at hA hval
  obtain ⟨v0, vs0, d0, ds0, p0, q0, hargs, rfl, rfl, h0, r0⟩ := trodAll_cons hA
  obtain ⟨v1, vs1, d1, ds1, p1, q1, rfl, rfl, rfl, h1, r1⟩ := trodAll_cons r0
  obtain ⟨v2, vs2, d2, ds2, p2, q2, rfl, rfl, rfl, h2, r2⟩ := trodAll_cons r1
  obtain ⟨rfl, rfl, rfl⟩ := trodAll_nil r2
  obtain rfl : args = #[v0, v1, v2] := by cases args; simp_all
  obtain ⟨rfl, rfl⟩ := trodVars_none hV
  obtain ⟨a, b0, b1, k0⟩ := open_acs h0 (hval 0 24 v0 rfl rfl)
  obtain ⟨x, rfl⟩ := open_u8 h1 (hval 1 5 v1 rfl rfl)
  obtain ⟨y, rfl⟩ := open_u16 h2 (hval 2 25 v2 rfl rfl)
  clear hA0 hval0
  refine ((ceaseAll_walk a x y b0 b1).calls (vs := [v0, u8 x, u16 y]) ⟨k0, came_raw, came_raw, trivial⟩ (steps_came hL)).mono fun e W' ⟨v, β, he, hv, hb⟩ => ?_
  subst he
  simp only [XV.rel, CV.rel, SV.rel] at hv
  subst hv
  exact ⟨_, rfl, post_true laid hW' rfl (by kernel_rfl) hb rfl rfl (fun _ _ => trodAll_cons_mk (shut_bool Tryz.underlying4 _) trodAll_mk0)⟩
theorem ceaseAll_over : Rows.CeaseAllSaid :=
  OpenClaim.holds_of_wide 3 Tryz.f3 rfl rfl rfl rfl rfl rfl rfl ⟨rfl, rfl, rfl, rfl, rfl⟩ rfl rfl rfl rfl rfl (by kernel_rfl) Tryz.func3 (by kernel_rfl)
    (of_decide_eq_true (by kernel_rfl)) (by unfold Func.isWrapper; first | (rw [if_pos (by decide +kernel)]; kernel_rfl) | (rw [if_neg (by decide +kernel)]; exact ⟨rfl, rfl⟩))
    (fun os started H enc _ => ceaseAll_lifted os started H enc)
theorem each_ {P : TypeId → Prop} {a b c : TypeId} (ha : P a) (hb : P b) (hc : P c) : ∀ (j : Nat) t, (#[a, b, c] : Array TypeId)[j]? = some t → P t := by
  intro j t ht
  match j, ht with
  | 0, ht => simp at ht; subst ht; exact ha
  | 1, ht => simp at ht; subst ht; exact hb
  | 2, ht => simp at ht; subst ht; exact hc
  | j + 3, ht => simp at ht
theorem ceaseAll_proved : Rows.CeaseAllCardSaid :=
  Claim7.holds_tied_plain_at .later [] [.data] true (true, "6b02c825a31eb1d64ce8c0d48304d645abff5b6c9cb370d5267b4e4c1e322499") false
    ceaseAll_over (fun _ h => by cases h) (by kernel_rfl) (fun _ h => by cases h) ceaseAll_row_tie rfl ⟨rfl, rfl⟩ (by kernel_rfl) rfl
    (fun f fn hf hfn => by
      obtain rfl : f = 3 := Option.some.inj ((show Tryz.prog.funcNamed "drawbridge/drawbridgelaw16.CeaseAll" = some 3 by kernel_rfl).symm.trans hf) |>.symm
      obtain rfl : fn = Tryz.f3 := (Option.some.inj (Tryz.func3.symm.trans hfn)).symm
      refine ⟨by kernel_rfl, ?_⟩
      rw [Tryz.params3]
      exact each_ (show Tryz.prog.wantsStandIn 24 = false by kernel_rfl) (show Tryz.prog.wantsStandIn 5 = false by kernel_rfl) (show Tryz.prog.wantsStandIn 25 = false by kernel_rfl))
    (by kernel_rfl)
end Go.Proofs.YtnpkdoggfnlapaaGreatDoor
