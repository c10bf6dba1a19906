/- Parts Rb Rc Rd. -/
import Derived.Test.YtmoohekgheoliaaGreatDoorG20
set_option linter.unusedSimpArgs false
set_option linter.unusedVariables false
namespace Go.Proofs.YtmoohekgheoliaaGreatDoor
set_option maxRecDepth 100000
open Go.Sx
theorem insAt_ref (l : List InM) (i : Nat) : insAt l i = (!(((decide ((l.getD i default).pt.no.toInt < 0) || decide (255 < (l.getD i default).pt.no.toInt)) || decide ((l.getD i default).sig.idx < 0)) || decide (255 < (l.getD i default).sig.idx)) && !(l.take i).any (sameAs (l.getD i default))) := by
  rw [insAt, withinB, withinB, dec_ge (a := (l.getD i default).pt.no.toInt) (b := 0) rfl, dec_ge (a := (l.getD i default).sig.idx) (b := 0) rfl, dec_gt (a := (l.getD i default).pt.no.toInt) (b := 255), dec_gt (a := (l.getD i default).sig.idx) (b := 255)]
  cases (l.take i).any (sameAs (l.getD i default)) <;> cases decide (0 ≤ (l.getD i default).pt.no.toInt) <;> cases decide ((l.getD i default).pt.no.toInt ≤ 255) <;> cases decide (0 ≤ (l.getD i default).sig.idx) <;> cases decide ((l.getD i default).sig.idx ≤ 255) <;> rfl
def rtxM (t : TxM) : Mem := [(0, .ro 298 t.ins.length (insF t.ins)), (1, .ro 9 t.outs.length (outsF t.outs)), (2, .ro 11 t.fwds.length (fwdsF t.fwds)), (3, .ro 8 t.par.keys.length (keysF t.par.keys)), (4, .ro 9 t.cert.outs.length (outsF t.cert.outs)), (5, .ro 282 t.cert.sigs.length (sgdsF t.cert.sigs)), (6, .cells 49 (boxC 0 t.ac))]
theorem payB_false {t : TxM} (h : insOK t.ins = false ∨ outsOK t.outs = false ∨ fwdsOK t.fwds = false ∨ t.outs.length + t.fwds.length = 0) : payB t = false := by
  rw [payB]
  rcases h with h | h | h | h
  · rw [h]; rfl
  · rw [h, Bool.false_and, Bool.and_false]
  · rw [h, Bool.false_and, Bool.and_false, Bool.and_false]
  · rw [show decide (0 < t.outs.length + t.fwds.length) = false by rw [decide_eq_false_iff_not]; omega, Bool.and_false, Bool.and_false, Bool.and_false]
theorem insOK_len {l : List InM} (h : ¬ (1 ≤ l.length ∧ l.length ≤ 8)) : insOK l = false := by
  rw [insOK, show withinB (l.length : Int) 1 8 = false by rw [Bool.eq_false_iff, ne_eq, within_iff]; omega, Bool.and_false]
theorem fwdsOK_len {l : List FwdM} (h : ¬ l.length ≤ 16) : fwdsOK l = false := by
  rw [fwdsOK, show decide (l.length ≤ 16) = false from decide_eq_false h, Bool.and_false]
theorem any_at {E : Type} [Inhabited E] {p : E → Bool} {l : List E} {i k : Nat} (hk : k < i) (hi : i ≤ l.length) (h : p (l.getD k default) = true) : (l.take i).any p = true := by
  have hd : l.getD k default = l[k]'(by omega) := by rw [List.getD_eq_getElem?_getD, List.getElem?_eq_getElem (show k < l.length by omega)]; rfl
  rw [hd] at h
  exact List.any_eq_true.2 ⟨_, List.mem_take_iff_getElem.2 ⟨k, by omega, rfl⟩, h⟩
set_option maxHeartbeats 4000000 in
theorem rmay_can (t : TxM) (hs : Sized t) : Reads Tryz.prog 79 [.box t.ac] [] (XV.bool (payB t)) := by
  have hi := hs.ins
  have ho := hs.outs
  have hf := hs.fwds
  refine Reads.of Tryz.T_ok Tryz.func79 rfl _ _ _ rfl rfl (fun C hC => ?_)
  (replace hC : C.n0 = 6 := hC; change Tri _ _ _ ⟨_, _, 6⟩ _)
  (refine Tri.cut 2 Tryz.mixed Tryz.T_ok ?_; ((conv => arg 5; whnf); repeat (refine xS ?_; conv => arg 5; whnf)))
  refine wC (fun h1 => ?_) (fun h1 => ?_)
  · have h1' : t.ins.length < 1 := (by (try simp only [ww] at *); omega)
    (refine wGo ?_; ((conv => arg 5; whnf); repeat (refine xS ?_; conv => arg 5; whnf)))
    refine wD <| cutR <| Ends.plain (.inr rfl) rfl (congrArg (fun b : Bool => XV.bool b) (payB_false (.inl (insOK_len (by omega)))).symm)
  have h1' : 1 ≤ t.ins.length := (by (try simp only [ww] at *); omega)
  (refine wGo ?_; ((conv => arg 5; whnf); repeat (refine xS ?_; conv => arg 5; whnf)))
  refine wC (fun h2 => ?_) (fun h2 => ?_)
  · have h2' : 8 < t.ins.length := (by (try simp only [ww] at *); omega)
    (refine wGo ?_; ((conv => arg 5; whnf); repeat (refine xS ?_; conv => arg 5; whnf)))
    refine wD <| cutR <| Ends.plain (.inr rfl) rfl (congrArg (fun b : Bool => XV.bool b) (payB_false (.inl (insOK_len (by omega)))).symm)
  have h2' : t.ins.length ≤ 8 := (by (try simp only [ww] at *); omega)
  (refine wGo ?_; ((conv => arg 5; whnf); repeat (refine xS ?_; conv => arg 5; whnf)))
  refine wC (fun h3 => ?_) (fun h3 => ?_)
  · have h3' : 16 < t.fwds.length := (by (try simp only [ww] at *); omega)
    (refine wGo ?_; ((conv => arg 5; whnf); repeat (refine xS ?_; conv => arg 5; whnf)))
    refine wD <| cutR <| Ends.plain (.inr rfl) rfl (congrArg (fun b : Bool => XV.bool b) (payB_false (.inr (.inr (.inl (fwdsOK_len (by omega)))))).symm)
  have h3' : t.fwds.length ≤ 16 := (by (try simp only [ww] at *); omega)
  (refine wGo ?_; ((conv => arg 5; whnf); repeat (refine xS ?_; conv => arg 5; whnf)))
  have e1 : IntKind.i64.wrap ((t.outs.length : Int) + (t.fwds.length : Int)) = ((t.outs.length + t.fwds.length : Nat) : Int) := (by (try simp only [ww] at *); omega)
  simp only [e1]
  refine wC (fun h4 => ?_) (fun h4 => ?_)
  · have h4' : t.outs.length + t.fwds.length = 0 := by
      have := beq_iff_eq.1 h4
      omega
    (refine wGo ?_; ((conv => arg 5; whnf); repeat (refine xS ?_; conv => arg 5; whnf)))
    refine wD <| cutR <| Ends.plain (.inr rfl) rfl (congrArg (fun b : Bool => XV.bool b) (payB_false (.inr (.inr (.inr h4')))).symm)
  have h4' : 0 < t.outs.length + t.fwds.length := by
    have := beq_eq_false_iff_ne.1 h4
    omega
  (refine wGo ?_; ((conv => arg 5; whnf); repeat (refine xS ?_; conv => arg 5; whnf)))
  (apply wP; exact (call_op rfl (entersB_of Tryz.func78 (by kernel_rfl)) rfl ((routs_can t.outs ho).at [1] ⟨lend_ro0 rfl rfl, trivial⟩ trivial)); ((conv => arg 5; whnf); repeat (refine xS ?_; conv => arg 5; whnf)))
  refine wC (fun h5 => ?_) (fun h5 => ?_)
  · have h5' : outsOK t.outs = false := by simpa using h5
    (refine wGo ?_; ((conv => arg 5; whnf); repeat (refine xS ?_; conv => arg 5; whnf)))
    refine wD <| cutR <| Ends.plain (.inr rfl) rfl (congrArg (fun b : Bool => XV.bool b) (payB_false (.inr (.inl h5'))).symm)
  have h5' : outsOK t.outs = true := by simpa using h5
  (refine wGo ?_; ((conv => arg 5; whnf); repeat (refine xS ?_; conv => arg 5; whnf)))
  refine wD <| cutG <| Tri.seq ?_
  (refine Tri.cut 1 Tryz.mixed Tryz.T_ok ?_; ((conv => arg 5; whnf); repeat (refine xS ?_; conv => arg 5; whnf)))
  refine wD <| cutG <| Tri.block ?_
  refine Tri.loop (α := { i : Nat // i ≤ t.ins.length ∧ (List.range i).all (insAt t.ins) = true }) (fun i => ⟨[none, some (XV.sv (.ptr 6 0 0 0)), none, some (XV.int .i64 i.1)] ++ List.replicate 97 none, rtxM t, 7⟩) (fun i => t.ins.length - i.1) ⟨0, Nat.zero_le _, rfl⟩ ?_ ?_
  · ((try dsimp only); refine Ent.renC [0, 1, 2, 3, 4, 5, 6] hC ?_ ?_ <;> repeat' (first | exact trivial | exact rfl | exact ⟨_, rfl, rfl, rfl, Nat.le_refl _, fun _ _ => rfl⟩ | exact ⟨_, rfl, rfl, rfl, fun _ _ => rfl⟩ | exact ⟨_, rfl, rfl, rfl⟩ | exact ⟨_, rfl, rfl⟩ | refine ⟨_, rfl, rfl, rfl, by omega, fun k hk => ?_⟩ | refine ⟨?_, ?_⟩ | fail))
  · rintro ⟨i, hii, ha⟩
    dsimp only
    (refine Tri.cut 1 Tryz.mixed Tryz.T_ok ?_; ((conv => arg 5; whnf); repeat (refine xS ?_; conv => arg 5; whnf)))
    refine wC (fun h6 => ?_) (fun h6 => ?_)
    · (refine wGo ?_; ((conv => arg 5; whnf); repeat (refine xS ?_; conv => arg 5; whnf)))
      have h6' : i < t.ins.length := (by (try simp only [ww] at *); omega)
      have hsu := range_all_succ (insAt t.ins) i
      have hw : IntKind.i64.wrap ((i : Int) + 1) = ((i + 1 : Nat) : Int) := (by (try simp only [ww] at *); omega)
      refine wD <| cutG <| Tri.seq <| Tri.block ?_
      (refine Tri.cut 2 Tryz.mixed Tryz.T_ok ?_; ((conv => arg 5; whnf); repeat (refine xS ?_; conv => arg 5; whnf)))
      (repeat (refine wN ?_ ?_; exact (by (try simp only [ww] at *); omega); refine wGo ?_; ((conv => arg 5; whnf); repeat (refine xS ?_; conv => arg 5; whnf))))
      simp only [Nat.zero_add, Int.toNat_natCast]
      refine wC (fun h7 => ?_) (fun h7 => ?_)
      · (refine wGo ?_; ((conv => arg 5; whnf); repeat (refine xS ?_; conv => arg 5; whnf)))
        refine wD <| cutR <| blockR <| cutR <| loopR <| blockR <| cutR <| Ends.plain (.inr rfl) rfl (congrArg (fun b : Bool => XV.bool b) (payB_false (.inl ?_)).symm)
        rw [insOK, range_all_false h6' (by rw [insAt_ref, h7]; rfl), Bool.false_and]
      (refine wGo ?_; ((conv => arg 5; whnf); repeat (refine xS ?_; conv => arg 5; whnf)))
      (repeat (refine wN ?_ ?_; exact (by (try simp only [ww] at *); omega); refine wGo ?_; ((conv => arg 5; whnf); repeat (refine xS ?_; conv => arg 5; whnf))))
      simp only [Nat.zero_add, Int.toNat_natCast]
      refine wC (fun h8 => ?_) (fun h8 => ?_)
      · (refine wGo ?_; ((conv => arg 5; whnf); repeat (refine xS ?_; conv => arg 5; whnf)))
        refine wD <| cutR <| blockR <| cutR <| loopR <| blockR <| cutR <| Ends.plain (.inr rfl) rfl (congrArg (fun b : Bool => XV.bool b) (payB_false (.inl ?_)).symm)
        rw [insOK, range_all_false h6' (by rw [insAt_ref, h7, h8]; rfl), Bool.false_and]
      (refine wGo ?_; ((conv => arg 5; whnf); repeat (refine xS ?_; conv => arg 5; whnf)))
      (repeat (refine wN ?_ ?_; exact (by (try simp only [ww] at *); omega); refine wGo ?_; ((conv => arg 5; whnf); repeat (refine xS ?_; conv => arg 5; whnf))))
      simp only [Nat.zero_add, Int.toNat_natCast]
      refine wC (fun h9 => ?_) (fun h9 => ?_)
      · (refine wGo ?_; ((conv => arg 5; whnf); repeat (refine xS ?_; conv => arg 5; whnf)))
        refine wD <| cutR <| blockR <| cutR <| loopR <| blockR <| cutR <| Ends.plain (.inr rfl) rfl (congrArg (fun b : Bool => XV.bool b) (payB_false (.inl ?_)).symm)
        rw [insOK, range_all_false h6' (by rw [insAt_ref, h7, h8, h9]; rfl), Bool.false_and]
      (refine wGo ?_; ((conv => arg 5; whnf); repeat (refine xS ?_; conv => arg 5; whnf)))
      (repeat (refine wN ?_ ?_; exact (by (try simp only [ww] at *); omega); refine wGo ?_; ((conv => arg 5; whnf); repeat (refine xS ?_; conv => arg 5; whnf))))
      simp only [Nat.zero_add, Int.toNat_natCast]
      refine wC (fun h10 => ?_) (fun h10 => ?_)
      · (refine wGo ?_; ((conv => arg 5; whnf); repeat (refine xS ?_; conv => arg 5; whnf)))
        refine wD <| cutR <| blockR <| cutR <| loopR <| blockR <| cutR <| Ends.plain (.inr rfl) rfl (congrArg (fun b : Bool => XV.bool b) (payB_false (.inl ?_)).symm)
        rw [insOK, range_all_false h6' (by rw [insAt_ref, h7, h8, h9, h10]; rfl), Bool.false_and]
      (refine wGo ?_; ((conv => arg 5; whnf); repeat (refine xS ?_; conv => arg 5; whnf)))
      refine wD <| cutG ?_
      (refine Tri.cut 1 Tryz.mixed Tryz.T_ok ?_; ((conv => arg 5; whnf); repeat (refine xS ?_; conv => arg 5; whnf)))
      refine wD <| cutG <| Tri.block ?_
      refine Tri.loop (α := { k : Nat // k ≤ i ∧ (t.ins.take k).any (sameAs (t.ins.getD i default)) = false }) (fun k => ⟨[none, some (XV.sv (.ptr 6 0 0 0)), none, some (XV.int .i64 i), some (XV.sv (.ptr 7 0 0 0)), some (XV.int .i64 k.1)] ++ List.replicate 95 none, rtxM t ++ [(7, .cells 65 ((t.ins.getD i default).cells.map .raw))], 8⟩) (fun k => i - k.1) ⟨0, Nat.zero_le _, rfl⟩ ?_ ?_
      · ((try dsimp only); refine Ent.renC [0, 1, 2, 3, 4, 5, 6, 17] hC ?_ ?_ <;> repeat' (first | exact trivial | exact rfl | exact ⟨_, rfl, rfl, rfl, Nat.le_refl _, fun _ _ => rfl⟩ | exact ⟨_, rfl, rfl, rfl, fun _ _ => rfl⟩ | exact ⟨_, rfl, rfl, rfl⟩ | exact ⟨_, rfl, rfl⟩ | refine ⟨_, rfl, rfl, rfl, by omega, fun k hk => ?_⟩ | refine ⟨?_, ?_⟩ | fail))
      rintro ⟨k, hki, hk⟩
      dsimp only
      (refine Tri.cut 1 Tryz.mixed Tryz.T_ok ?_; ((conv => arg 5; whnf); repeat (refine xS ?_; conv => arg 5; whnf)))
      refine wC (fun h11 => ?_) (fun h11 => ?_)
      · (refine wGo ?_; ((conv => arg 5; whnf); repeat (refine xS ?_; conv => arg 5; whnf)))
        have h11' : k < i := (by (try simp only [ww] at *); omega)
        have hw2 : IntKind.i64.wrap ((k : Int) + 1) = ((k + 1 : Nat) : Int) := (by (try simp only [ww] at *); omega)
        refine wD <| cutG <| Tri.seq <| Tri.block <| Tri.of Tryz.mixed Tryz.T_ok ?_
        (refine wBegin ?_; ((conv => arg 5; whnf); repeat (refine xS ?_; conv => arg 5; whnf)))
        (repeat (refine wN ?_ ?_; exact (by (try simp only [ww] at *); omega); refine wGo ?_; ((conv => arg 5; whnf); repeat (refine xS ?_; conv => arg 5; whnf))))
        simp only [Nat.zero_add, Int.toNat_natCast]
        (refine wP _ _ (eq_op ptE rfl (t.ins.getD k default).pt (t.ins.getD i default).pt rfl rfl) ?_; ((conv => arg 5; whnf); repeat (refine xS ?_; conv => arg 5; whnf)))
        refine wC (fun h12 => ?_) (fun h12 => ?_)
        · (refine wGo ?_; ((conv => arg 5; whnf); repeat (refine xS ?_; conv => arg 5; whnf)))
          refine wD <| blockR <| cutR <| loopR <| blockR <| blockR <| cutR <| loopR <| blockR <| cutR <| Ends.plain (.inr rfl) rfl (congrArg (fun b : Bool => XV.bool b) (payB_false (.inl ?_)).symm)
          rw [insOK, range_all_false h6' (by rw [insAt_ref, any_at (k := k) h11' hii h12, Bool.not_true, Bool.and_false]), Bool.false_and]
        · (refine wGo ?_; ((conv => arg 5; whnf); repeat (refine xS ?_; conv => arg 5; whnf)))
          refine wD <| blockN <| cutG <| Tri.of Tryz.mixed Tryz.T_ok ?_
          (refine wBegin ?_; ((conv => arg 5; whnf); repeat (refine xS ?_; conv => arg 5; whnf)))
          refine wD <| loopN ⟨⟨k + 1, h11', ?_⟩, by dsimp only; omega, ?_⟩
          · rw [any_take_succ (show k < t.ins.length by omega), hk]; exact h12
          rw [hw2]
          ((try dsimp only); refine Ent.renC [0, 1, 2, 3, 4, 5, 6, 7] hC ?_ ?_ <;> repeat' (first | exact trivial | exact rfl | exact ⟨_, rfl, rfl, rfl, Nat.le_refl _, fun _ _ => rfl⟩ | exact ⟨_, rfl, rfl, rfl, fun _ _ => rfl⟩ | exact ⟨_, rfl, rfl, rfl⟩ | exact ⟨_, rfl, rfl⟩ | refine ⟨_, rfl, rfl, rfl, by omega, fun k hk => ?_⟩ | refine ⟨?_, ?_⟩ | fail))
      · (refine wGo ?_; ((conv => arg 5; whnf); repeat (refine xS ?_; conv => arg 5; whnf)))
        have h11' : k = i := (by (try simp only [ww] at *); omega)
        subst h11'
        refine wD <| cutE <| loopX <| blockX <| blockN <| cutG <| Tri.of Tryz.mixed Tryz.T_ok ?_
        (refine wBegin ?_; ((conv => arg 5; whnf); repeat (refine xS ?_; conv => arg 5; whnf)))
        refine wD <| loopN ⟨⟨k + 1, h6', by rw [hsu, ha, insAt_ref, h7, h8, h9, h10, hk]; rfl⟩, by dsimp only; omega, ?_⟩
        rw [hw]
        ((try dsimp only); refine Ent.renC [0, 1, 2, 3, 4, 5, 6] hC ?_ ?_ <;> repeat' (first | exact trivial | exact rfl | exact ⟨_, rfl, rfl, rfl, Nat.le_refl _, fun _ _ => rfl⟩ | exact ⟨_, rfl, rfl, rfl, fun _ _ => rfl⟩ | exact ⟨_, rfl, rfl, rfl⟩ | exact ⟨_, rfl, rfl⟩ | refine ⟨_, rfl, rfl, rfl, by omega, fun k hk => ?_⟩ | refine ⟨?_, ?_⟩ | fail))
    · (refine wGo ?_; ((conv => arg 5; whnf); repeat (refine xS ?_; conv => arg 5; whnf)))
      have h6' : i = t.ins.length := (by (try simp only [ww] at *); omega)
      subst h6'
      have hins : insOK t.ins = true := by
        rw [insOK, ha, Bool.true_and, within_iff]; omega
      refine wD <| cutE <| loopX <| blockX <| cutG <| Tri.seq ?_
      (refine Tri.cut 1 Tryz.mixed Tryz.T_ok ?_; ((conv => arg 5; whnf); repeat (refine xS ?_; conv => arg 5; whnf)))
      refine wD <| cutG <| Tri.block ?_
      refine Tri.loop (α := { i : Nat // i ≤ t.fwds.length ∧ (t.fwds.take i).all fwdOK = true }) (fun i => ⟨[none, some (XV.sv (.ptr 6 0 0 0)), none, none, none, none, some (XV.int .i64 i.1)] ++ List.replicate 94 none, rtxM t, 7⟩) (fun i => t.fwds.length - i.1) ⟨0, Nat.zero_le _, rfl⟩ ?_ ?_
      · ((try dsimp only); refine Ent.renC [0, 1, 2, 3, 4, 5, 6] hC ?_ ?_ <;> repeat' (first | exact trivial | exact rfl | exact ⟨_, rfl, rfl, rfl, Nat.le_refl _, fun _ _ => rfl⟩ | exact ⟨_, rfl, rfl, rfl, fun _ _ => rfl⟩ | exact ⟨_, rfl, rfl, rfl⟩ | exact ⟨_, rfl, rfl⟩ | refine ⟨_, rfl, rfl, rfl, by omega, fun k hk => ?_⟩ | refine ⟨?_, ?_⟩ | fail))
      rintro ⟨i, hii2, ha2⟩
      dsimp only
      (refine Tri.cut 1 Tryz.mixed Tryz.T_ok ?_; ((conv => arg 5; whnf); repeat (refine xS ?_; conv => arg 5; whnf)))
      refine wC (fun h6 => ?_) (fun h6 => ?_)
      · (refine wGo ?_; ((conv => arg 5; whnf); repeat (refine xS ?_; conv => arg 5; whnf)))
        have h6' : i < t.fwds.length := (by (try simp only [ww] at *); omega)
        have hsu := all_take_succ (p := fwdOK) h6'
        have hw : IntKind.i64.wrap ((i : Int) + 1) = ((i + 1 : Nat) : Int) := (by (try simp only [ww] at *); omega)
        refine wD <| cutG <| Tri.seq <| Tri.block <| Tri.of Tryz.mixed Tryz.T_ok ?_
        (refine wBegin ?_; ((conv => arg 5; whnf); repeat (refine xS ?_; conv => arg 5; whnf)))
        (repeat (refine wN ?_ ?_; exact (by (try simp only [ww] at *); omega); refine wGo ?_; ((conv => arg 5; whnf); repeat (refine xS ?_; conv => arg 5; whnf))))
        simp only [Nat.zero_add, Int.toNat_natCast]
        (apply wP; exact (call_op rfl (entersB_of Tryz.func111 (by kernel_rfl)) rfl ((rfwd_can (t.fwds.getD i default)).at [] ⟨lend_plain rfl, trivial⟩ trivial)); ((conv => arg 5; whnf); repeat (refine xS ?_; conv => arg 5; whnf)))
        refine wC (fun h7 => ?_) (fun h7 => ?_)
        · have h7' : fwdOK (t.fwds.getD i default) = false := by simpa using h7
          (refine wGo ?_; ((conv => arg 5; whnf); repeat (refine xS ?_; conv => arg 5; whnf)))
          refine wD <| blockR <| cutR <| loopR <| blockR <| cutR <| Ends.plain (.inr rfl) rfl (congrArg (fun b : Bool => XV.bool b) (payB_false (.inr (.inr (.inl ?_)))).symm)
          rw [fwdsOK, all_false h6' h7', Bool.false_and]
        · have h7' : fwdOK (t.fwds.getD i default) = true := by simpa using h7
          (refine wGo ?_; ((conv => arg 5; whnf); repeat (refine xS ?_; conv => arg 5; whnf)))
          refine wD <| blockN <| cutG <| Tri.of Tryz.mixed Tryz.T_ok ?_
          (refine wBegin ?_; ((conv => arg 5; whnf); repeat (refine xS ?_; conv => arg 5; whnf)))
          refine wD <| loopN ⟨⟨i + 1, h6', by rw [hsu, ha2, h7']; rfl⟩, by dsimp only; omega, ?_⟩
          rw [hw]
          ((try dsimp only); refine Ent.renC [0, 1, 2, 3, 4, 5, 6] hC ?_ ?_ <;> repeat' (first | exact trivial | exact rfl | exact ⟨_, rfl, rfl, rfl, Nat.le_refl _, fun _ _ => rfl⟩ | exact ⟨_, rfl, rfl, rfl, fun _ _ => rfl⟩ | exact ⟨_, rfl, rfl, rfl⟩ | exact ⟨_, rfl, rfl⟩ | refine ⟨_, rfl, rfl, rfl, by omega, fun k hk => ?_⟩ | refine ⟨?_, ?_⟩ | fail))
      · (refine wGo ?_; ((conv => arg 5; whnf); repeat (refine xS ?_; conv => arg 5; whnf)))
        have h6' : i = t.fwds.length := (by (try simp only [ww] at *); omega)
        subst h6'
        rw [List.take_length] at ha2
        refine wD <| cutE <| loopX <| blockX <| cutG <| Tri.of Tryz.mixed Tryz.T_ok ?_
        (refine wBegin ?_; ((conv => arg 5; whnf); repeat (refine xS ?_; conv => arg 5; whnf)))
        refine wD (Ends.plain (.inr rfl) rfl (congrArg (fun b : Bool => XV.bool b) ?_))
        rw [payB, hins, h5', fwdsOK, ha2, show decide (t.fwds.length ≤ 16) = true from decide_eq_true h3', show decide (0 < t.outs.length + t.fwds.length) = true from decide_eq_true h4']
        rfl
end Go.Proofs.YtmoohekgheoliaaGreatDoor
namespace Go.Proofs.YtmoohekgheoliaaGreatDoor
set_option maxRecDepth 100000
open Go.Sx
theorem noPar_can (p : ParM) (hl : p.keys.length ≤ 1000000000) : Reads Tryz.prog 76 [.box p.ac] [] (XV.bool (parZ p)) := by
  refine Reads.of Tryz.T_ok Tryz.func76 rfl _ _ _ rfl rfl (fun C hC => ?_)
  (replace hC : C.n0 = 1 := hC; change Tri _ _ _ ⟨_, _, 1⟩ _)
  refine Tri.of Tryz.mixed Tryz.T_ok ?_
  (refine wBegin ?_; ((conv => arg 5; whnf); repeat (refine xS ?_; conv => arg 5; whnf)))
  refine wC (fun h1 => ?_) (fun h1 => ?_)
  · (refine wGo ?_; ((conv => arg 5; whnf); repeat (refine xS ?_; conv => arg 5; whnf)))
    refine wC (fun h2 => ?_) (fun h2 => ?_)
    · (refine wGo ?_; ((conv => arg 5; whnf); repeat (refine xS ?_; conv => arg 5; whnf)))
      refine wC (fun h3 => ?_) (fun h3 => ?_)
      · (refine wGo ?_; ((conv => arg 5; whnf); repeat (refine xS ?_; conv => arg 5; whnf)))
        exact wD (Ends.plain (.inr rfl) rfl (by rw [parZ, h1, h2, h3]; rfl))
      · (refine wGo ?_; ((conv => arg 5; whnf); repeat (refine xS ?_; conv => arg 5; whnf)))
        exact wD (Ends.plain (.inr rfl) rfl (by rw [parZ, h1, h2, h3]; rfl))
    · (refine wGo ?_; ((conv => arg 5; whnf); repeat (refine xS ?_; conv => arg 5; whnf)))
      exact wD (Ends.plain (.inr rfl) rfl (by rw [parZ, h1, h2]; rfl))
  · (refine wGo ?_; ((conv => arg 5; whnf); repeat (refine xS ?_; conv => arg 5; whnf)))
    exact wD (Ends.plain (.inr rfl) rfl (by rw [parZ, h1]; rfl))
theorem sum_zero (a b : Nat) : (((a + b : Nat) : Int) == 0) = (((a : Int) == 0) && ((b : Int) == 0)) := by
  rw [Bool.eq_iff_iff, Bool.and_eq_true, beq_iff_eq, beq_iff_eq, beq_iff_eq]; omega
theorem noCert_can (c : CertM) (h1 : c.outs.length ≤ 1000000000) (h2 : c.sigs.length ≤ 1000000000) : Reads Tryz.prog 77 [.box c.ac] [] (XV.bool (certZ c)) := by
  refine Reads.of Tryz.T_ok Tryz.func77 rfl _ _ _ rfl rfl (fun C hC => ?_)
  (replace hC : C.n0 = 2 := hC; change Tri _ _ _ ⟨_, _, 2⟩ _)
  refine Tri.of Tryz.mixed Tryz.T_ok ?_
  (refine wBegin ?_; ((conv => arg 5; whnf); repeat (refine xS ?_; conv => arg 5; whnf)))
  refine wC (fun h1 => ?_) (fun h1 => ?_)
  · (refine wGo ?_; ((conv => arg 5; whnf); repeat (refine xS ?_; conv => arg 5; whnf)))
    refine wC (fun h2 => ?_) (fun h2 => ?_)
    · (refine wGo ?_; ((conv => arg 5; whnf); repeat (refine xS ?_; conv => arg 5; whnf)))
      refine wC (fun h3 => ?_) (fun h3 => ?_)
      · (refine wGo ?_; ((conv => arg 5; whnf); repeat (refine xS ?_; conv => arg 5; whnf)))
        (refine wP _ _ (eq_op hashE rfl c.fin zeroH rfl rfl) ?_; ((conv => arg 5; whnf); repeat (refine xS ?_; conv => arg 5; whnf)))
        refine wC (fun h4 => ?_) (fun h4 => ?_)
        · (refine wGo ?_; ((conv => arg 5; whnf); repeat (refine xS ?_; conv => arg 5; whnf)))
          (refine wP _ _ (eq_op hashE rfl c.root zeroH rfl rfl) ?_; ((conv => arg 5; whnf); repeat (refine xS ?_; conv => arg 5; whnf)))
          refine wC (fun h5 => ?_) (fun h5 => ?_)
          · (refine wGo ?_; ((conv => arg 5; whnf); repeat (refine xS ?_; conv => arg 5; whnf)))
            refine wC (fun h6 => ?_) (fun h6 => ?_)
            · (refine wGo ?_; ((conv => arg 5; whnf); repeat (refine xS ?_; conv => arg 5; whnf)))
              exact wD (Ends.plain (.inr rfl) rfl (by rw [certZ, sum_zero, h1, h2, h3, zeroB, h4, zeroB, h5, h6]; rfl))
            · (refine wGo ?_; ((conv => arg 5; whnf); repeat (refine xS ?_; conv => arg 5; whnf)))
              exact wD (Ends.plain (.inr rfl) rfl (by rw [certZ, sum_zero, h1, h2, h3, zeroB, h4, zeroB, h5, h6]; rfl))
          · (refine wGo ?_; ((conv => arg 5; whnf); repeat (refine xS ?_; conv => arg 5; whnf)))
            exact wD (Ends.plain (.inr rfl) rfl (by rw [certZ, h1, h2, h3, zeroB, h4, zeroB, h5]; rfl))
        · (refine wGo ?_; ((conv => arg 5; whnf); repeat (refine xS ?_; conv => arg 5; whnf)))
          exact wD (Ends.plain (.inr rfl) rfl (by rw [certZ, h1, h2, h3, zeroB, h4]; rfl))
      · (refine wGo ?_; ((conv => arg 5; whnf); repeat (refine xS ?_; conv => arg 5; whnf)))
        exact wD (Ends.plain (.inr rfl) rfl (by rw [certZ, h1, h2, h3]; rfl))
    · (refine wGo ?_; ((conv => arg 5; whnf); repeat (refine xS ?_; conv => arg 5; whnf)))
      exact wD (Ends.plain (.inr rfl) rfl (by rw [certZ, h1, h2]; rfl))
  · (refine wGo ?_; ((conv => arg 5; whnf); repeat (refine xS ?_; conv => arg 5; whnf)))
    exact wD (Ends.plain (.inr rfl) rfl (by rw [certZ, h1]; rfl))
theorem lend_par {M : Mem} {rd : List Nat} {p : ParM} {s : SV} (h : Lends M rd (.one s) (.row 8 p.keys.length (keysF p.keys))) : Lends M rd (.agg (parCells p s)) (.box p.ac) := lend_box ⟨rfl, rfl, rfl, h, trivial⟩
theorem lend_cert {M : Mem} {rd : List Nat} {c : CertM} {s1 s2 : SV} (h1 : Lends M rd (.one s1) (.row 9 c.outs.length (outsF c.outs))) (h2 : Lends M rd (.one s2) (.row 282 c.sigs.length (sgdsF c.sigs))) : Lends M rd (.agg (certCells c s1 s2)) (.box c.ac) := by
  have h := lend_cert_cells (r := []) (l := []) h1 h2 trivial
  rw [List.append_nil, List.append_nil] at h
  exact lend_box h
set_option maxHeartbeats 4000000 in
theorem mayTx_can (t : TxM) (hk : t.kind = 2) (hs : Sized t) (hc : t.claim.Wf) : Reads Tryz.prog 41 [.box t.ac] [] (XV.bool (mayPay t hc)) := by
  have hrm := rmay_can t hs
  have hle := hs.keys
  have hco := hs.couts
  have hcs := hs.sigs
  have hmp : mayPay t hc = (payB t && ((t.height == 0 && (true && (parZ t.par && certZ t.cert))) && claimZ t.claim hc)) := rfl
  obtain ⟨kind, height, ins, outs, fwds, par, cert, claim⟩ := t
  dsimp only at hk hle hco hcs hmp
  subst hk
  refine Reads.of Tryz.T_ok Tryz.func41 rfl _ _ _ rfl rfl (fun C hC => ?_)
  (replace hC : C.n0 = 6 := hC; change Tri _ _ _ ⟨_, _, 6⟩ _)
  (refine Tri.cut 2 Tryz.mixed Tryz.T_ok ?_; ((conv => arg 5; whnf); repeat (refine xS ?_; conv => arg 5; whnf)))
  (refine wTd rfl ?_; refine wGo ?_; ((conv => arg 5; whnf); repeat (refine xS ?_; conv => arg 5; whnf)))
  refine wC (fun h1 => ?_) (fun h1 => ?_)
  · have h1' : (height == 0) = false := by simpa using h1
    (refine wGo ?_; ((conv => arg 5; whnf); repeat (refine xS ?_; conv => arg 5; whnf)))
    refine wD <| cutR <| Ends.plain (.inr rfl) rfl (congrArg (fun b : Bool => XV.bool b) ?_)
    rw [hmp, h1', Bool.false_and, Bool.false_and, Bool.and_false]
  have h1' : (height == 0) = true := by simpa using h1
  (refine wGo ?_; ((conv => arg 5; whnf); repeat (refine xS ?_; conv => arg 5; whnf)))
  (refine wFd rfl ?_; refine wGo ?_; ((conv => arg 5; whnf); repeat (refine xS ?_; conv => arg 5; whnf)))
  (refine wFd rfl ?_; refine wGo ?_; ((conv => arg 5; whnf); repeat (refine xS ?_; conv => arg 5; whnf)))
  (refine wTd rfl ?_; refine wGo ?_; ((conv => arg 5; whnf); repeat (refine xS ?_; conv => arg 5; whnf)))
  (apply wP; exact (call_op rfl (entersB_of Tryz.func76 (by kernel_rfl)) rfl ((noPar_can par hle).at [3] ⟨lend_par (lend_ro0 rfl rfl), trivial⟩ trivial)); ((conv => arg 5; whnf); repeat (refine xS ?_; conv => arg 5; whnf)))
  refine wC (fun h2 => ?_) (fun h2 => ?_)
  · have h2' : parZ par = false := by simpa using h2
    (refine wGo ?_; ((conv => arg 5; whnf); repeat (refine xS ?_; conv => arg 5; whnf)))
    refine wD <| cutR <| Ends.plain (.inr rfl) rfl (congrArg (fun b : Bool => XV.bool b) ?_)
    rw [hmp, h1', h2', Bool.false_and, Bool.and_false, Bool.and_false, Bool.false_and, Bool.and_false]
  have h2' : parZ par = true := by simpa using h2
  (refine wGo ?_; ((conv => arg 5; whnf); repeat (refine xS ?_; conv => arg 5; whnf)))
  (refine wTd rfl ?_; refine wGo ?_; ((conv => arg 5; whnf); repeat (refine xS ?_; conv => arg 5; whnf)))
  (apply wP; exact (call_op rfl (entersB_of Tryz.func77 (by kernel_rfl)) rfl ((noCert_can cert hco hcs).at [4, 5] ⟨lend_cert (lend_ro0 rfl rfl) (lend_ro0 rfl rfl), trivial⟩ trivial)); ((conv => arg 5; whnf); repeat (refine xS ?_; conv => arg 5; whnf)))
  refine wC (fun h3 => ?_) (fun h3 => ?_)
  · have h3' : certZ cert = false := by simpa using h3
    (refine wGo ?_; ((conv => arg 5; whnf); repeat (refine xS ?_; conv => arg 5; whnf)))
    refine wD <| cutR <| Ends.plain (.inr rfl) rfl (congrArg (fun b : Bool => XV.bool b) ?_)
    rw [hmp, h1', h2', h3', Bool.and_false, Bool.and_false, Bool.and_false, Bool.false_and, Bool.and_false]
  have h3' : certZ cert = true := by simpa using h3
  (refine wGo ?_; ((conv => arg 5; whnf); repeat (refine xS ?_; conv => arg 5; whnf)))
  (refine wTd rfl ?_; refine wGo ?_; ((conv => arg 5; whnf); repeat (refine xS ?_; conv => arg 5; whnf)))
  (refine wP _ _ (neq_op claimE rfl (claim.cv hc) (claim0.cv claim0_wf) rfl rfl) ?_; ((conv => arg 5; whnf); repeat (refine xS ?_; conv => arg 5; whnf)))
  refine wC (fun h4 => ?_) (fun h4 => ?_)
  · have h4' : claimZ claim hc = false := by simpa [claimZ] using h4
    (refine wGo ?_; ((conv => arg 5; whnf); repeat (refine xS ?_; conv => arg 5; whnf)))
    refine wD <| cutR <| Ends.plain (.inr rfl) rfl (congrArg (fun b : Bool => XV.bool b) ?_)
    rw [hmp, h4', Bool.and_false, Bool.and_false]
  have h4' : claimZ claim hc = true := by simpa [claimZ] using h4
  have hmp' : mayPay ⟨2, height, ins, outs, fwds, par, cert, claim⟩ hc = payB ⟨2, height, ins, outs, fwds, par, cert, claim⟩ := by rw [hmp, h1', h2', h3', h4']; exact Bool.and_true _
  (refine wGo ?_; ((conv => arg 5; whnf); repeat (refine xS ?_; conv => arg 5; whnf)))
  refine wD <| cutG <| Tri.of Tryz.mixed Tryz.T_ok ?_
  (refine wBegin ?_; ((conv => arg 5; whnf); repeat (refine xS ?_; conv => arg 5; whnf)))
  (refine wFd rfl ?_; refine wGo ?_; ((conv => arg 5; whnf); repeat (refine xS ?_; conv => arg 5; whnf)))
  (refine wTd rfl ?_; refine wGo ?_; ((conv => arg 5; whnf); repeat (refine xS ?_; conv => arg 5; whnf)))
  (apply wP; exact (call_op rfl (entersB_of Tryz.func79 (by kernel_rfl)) rfl (hrm.at [0, 1, 2, 3, 4, 5] ⟨lend_tx (t := ⟨2, height, ins, outs, fwds, par, cert, claim⟩) (lend_ro0 rfl rfl) (lend_ro0 rfl rfl) (lend_ro0 rfl rfl) (lend_ro0 rfl rfl) (lend_ro0 rfl rfl) (lend_ro0 rfl rfl), trivial⟩ trivial)); ((conv => arg 5; whnf); repeat (refine xS ?_; conv => arg 5; whnf)))
  exact wD (Ends.plain (.inr rfl) rfl (congrArg (fun b : Bool => XV.bool b) hmp'.symm))
end Go.Proofs.YtmoohekgheoliaaGreatDoor
namespace Go.Sx
theorem new_elem {S : St} {x : Operand} {c off sz sz1 i j k cap n : Nat} {f g : Nat → List Value} {rd : List Nat} (hx : S.ev x = some (XV.sv (.sla c off sz1 k cap))) (hm : S.mem.get c = some (.ro sz n f)) (hrd : nmem c rd = true) (hoff : off = i * sz + j) (hi : i < n) (hl : ∀ q, q < k → (g q).length = sz1) (hf : ((f i).drop j).take (k * sz1) = tabF g 0 k) : NewOp S x rd sz1 k g := by
  intro β ow w v h1 h2
  have hv := h1 _ hx
  have hh := h2 c ((nmem_iff c rd).1 hrd) _ hm
  obtain ⟨a, e1, e2, e3⟩ := hv
  simp only [Holds] at hh
  by_cases hnil : (β c).nil = true
  · rw [if_pos hnil] at hh
    omega
  rw [if_neg hnil] at hh
  obtain ⟨v1, v2, v7⟩ := hh
  refine ⟨⟨some a, _, e1, fun hk => ⟨a, rfl, flat_cells hl fun q hq r v hv => ?_⟩⟩, hl⟩
  have hr : r < sz1 := by rw [← hl q hq]; exact (List.getElem?_eq_some_iff.1 hv).1
  have hg : ((f i).drop j)[q * sz1 + r]? = some v := by
    have h5 := flat_get (m := k) hl hq hr
    rw [← tabF_eq, ← hf, hv] at h5
    rw [List.getElem?_take] at h5
    split at h5
    · exact h5
    · cases h5
  rw [List.getElem?_drop] at hg
  have := (v7 i hi).2 (j + (q * sz1 + r)) v hg
  rw [e3 (by omega), loc_add, ← this]
  congr 2
  rw [hoff]; omega
end Go.Sx
namespace Go.Proofs.YtmoohekgheoliaaGreatDoor
set_option maxRecDepth 100000
open Go.Sx
theorem drop_pre {E : Type} (pre l : List E) (k : Nat) : (pre ++ l).drop (pre.length + k) = l.drop k := by rw [← List.drop_drop, List.drop_left]
theorem hashesL_zero (p : Nat → H8) : hashesL p 0 = [] := rfl
theorem tab_hash_mid (p : Nat → H8) : ∀ (m i n : Nat) (post : List Value), n < m → (((tabF (hashF p) i m ++ post).drop (n * 8)).take 8) = (p (i + n)).cells
  | 0, _, _, _, h => absurd h (Nat.not_lt_zero _)
  | m + 1, i, 0, post, _ => rfl
  | m + 1, i, n + 1, post, h => by
    have e : (n + 1) * 8 = (p i).cells.length + n * 8 := by show _ = 8 + n * 8; omega
    show (((p i).cells ++ tabF (hashF p) (i + 1) m ++ post).drop ((n + 1) * 8)).take 8 = _
    rw [List.append_assoc, e, drop_pre, tab_hash_mid p m (i + 1) n post (by omega)]
    rw [show i + 1 + n = i + (n + 1) by omega]
theorem tab_hash_at (p : Nat → H8) (j : Nat) {m n off l : Nat} {pre post cs : List Value} (hcs : cs = pre ++ (tabF (hashF p) 0 m ++ post)) (hn : n < m) (hj : j = pre.length) (hoff : off = j + n * 8) (hl : l = 8) : ((cs.map SV.raw).drop off).take (l * 1) = (tabF (rowB (p n).l) 0 l).map .raw := by
  subst hcs hoff hj hl
  rw [← List.map_drop, ← List.map_take, drop_pre, tab_hash_mid p m 0 n post hn, Nat.zero_add]
  rfl
def sigBs (s : SigM) (a b c : Nat) : List UInt8 := (numL s.idx 1 :: (hashesL s.opn a ++ (hashesL s.shut b ++ hashesL s.path c))).flatten
theorem sigBs_len (s : SigM) (a b c : Nat) : (sigBs s a b c).length = 1 + 8 * (a + b + c) := by
  simp only [sigBs, List.flatten_cons, List.flatten_append, List.length_append, hashesL_flat, numL_length]; omega
theorem sigBs_a (s : SigM) (a : Nat) : sigBs s (a + 1) 0 0 = sigBs s a 0 0 ++ (s.opn a).l := by simp [sigBs, hashesL_succ, hashesL_zero]
theorem sigBs_b (s : SigM) (b : Nat) : sigBs s 16 (b + 1) 0 = sigBs s 16 b 0 ++ (s.shut b).l := by simp [sigBs, hashesL_succ, hashesL_zero]
theorem sigBs_c (s : SigM) (c : Nat) : sigBs s 16 16 (c + 1) = sigBs s 16 16 c ++ (s.path c).l := by simp [sigBs, hashesL_succ]
theorem sig_cells_a (s : SigM) : s.cells = [.int .i64 s.idx] ++ (tabF (hashF s.opn) 0 16 ++ (tabF (hashF s.shut) 0 16 ++ tabF (hashF s.path) 0 3)) := by simp [SigM.cells]
theorem sig_cells_b (s : SigM) : s.cells = (.int .i64 s.idx :: tabF (hashF s.opn) 0 16) ++ (tabF (hashF s.shut) 0 16 ++ tabF (hashF s.path) 0 3) := by simp [SigM.cells]
theorem sig_cells_c (s : SigM) : s.cells = (.int .i64 s.idx :: (tabF (hashF s.opn) 0 16 ++ tabF (hashF s.shut) 0 16)) ++ (tabF (hashF s.path) 0 3 ++ []) := by simp [SigM.cells]
def rsigSt (s : SigM) (pre : List (Option XV)) (post : Nat) (b : List UInt8) (i : Nat) : St :=
  ⟨[none, some (XV.sv (.ptr 1 0 0 0)), none, some (XV.sv (.slc 2 1 0 b.length))] ++ pre ++ [some (XV.int .i64 i)] ++ List.replicate post none, [(1, .cells 63 (s.cells.map .raw)), (2, .vec 5 1 b.length (rowB b))], 3⟩
set_option maxHeartbeats 4000000 in
theorem rsig_can (s : SigM) : Makes Tryz.prog 97 [.plain s.x] [] (XV.sv (.slc 0 1 0 281)) (.vec 5 1 281 (rowB s.parts.flatten)) := by
  refine Makes.of Tryz.T_ok Tryz.func97 rfl _ _ _ _ rfl rfl rfl rfl 2 (fun C hC => ?_)
  (replace hC : C.n0 = 1 := hC; change Tri _ _ _ ⟨_, _, 1⟩ _)
  (refine Tri.cut 2 Tryz.mixed Tryz.T_ok ?_; ((conv => arg 5; whnf); repeat (refine xS ?_; conv => arg 5; whnf)))
  (apply wP; exact (call_op rfl (entersB_of Tryz.func57 (by kernel_rfl)) rfl ((num_can s.idx 1 (by decide)).at [] ⟨lend_plain rfl, lend_plain rfl, trivial⟩ trivial)); ((conv => arg 5; whnf); repeat (refine xS ?_; conv => arg 5; whnf)))
  refine wD <| cutG <| Tri.seq ?_
  (refine Tri.cut 1 Tryz.mixed Tryz.T_ok ?_; ((conv => arg 5; whnf); repeat (refine xS ?_; conv => arg 5; whnf)))
  refine wD <| cutG <| Tri.block ?_
  refine Tri.loop (α := { i : Nat // i ≤ 16 }) (fun i => rsigSt s [] 36 (sigBs s i.1 0 0) i.1) (fun i => 16 - i.1) ⟨0, Nat.zero_le _⟩ ?_ ?_
  · dsimp only
    rw [rsigSt, sigBs_len]
    ((try dsimp only); refine Ent.renC [0, 1, 5] hC ?_ ?_ <;> repeat' (first | exact trivial | exact rfl | exact ⟨_, rfl, rfl, rfl, Nat.le_refl _, fun _ _ => rfl⟩ | exact ⟨_, rfl, rfl, rfl, fun _ _ => rfl⟩ | exact ⟨_, rfl, rfl, rfl⟩ | exact ⟨_, rfl, rfl⟩ | refine ⟨_, rfl, rfl, rfl, by omega, fun k hk => ?_⟩ | refine ⟨?_, ?_⟩ | fail))
  rintro ⟨i, hi⟩
  dsimp only
  have hl := sigBs_len s i 0 0
  (refine Tri.cut 1 Tryz.mixed Tryz.T_ok ?_; ((conv => arg 5; whnf); repeat (refine xS ?_; conv => arg 5; whnf)))
  refine wC (fun h1 => ?_) (fun h1 => ?_)
  · (refine wGo ?_; ((conv => arg 5; whnf); repeat (refine xS ?_; conv => arg 5; whnf)))
    have h1' : i < 16 := (by (try simp only [ww] at *); omega)
    have hw : IntKind.i64.wrap ((i : Int) + 1) = ((i + 1 : Nat) : Int) := (by (try simp only [ww] at *); omega)
    refine wD <| cutG <| Tri.seq <| Tri.block <| Tri.of Tryz.mixed Tryz.T_ok ?_
    (refine wBegin ?_; ((conv => arg 5; whnf); repeat (refine xS ?_; conv => arg 5; whnf)))
    (repeat (refine wN ?_ ?_; exact (by (try simp only [ww] at *); omega); refine wGo ?_; ((conv => arg 5; whnf); repeat (refine xS ?_; conv => arg 5; whnf))))
    simp only [Nat.zero_add, Int.toNat_natCast]
    (refine wP _ _ (append_op Tryz.T_ok rfl rfl rfl rfl rfl [2, 1] (old_vec rfl rfl (Nat.le_refl _) rfl) (new_sla (g := rowB (s.opn i).l) rfl rfl rfl (fun _ _ => rfl) (tab_hash_at s.opn 1 (sig_cells_a s) h1' rfl (by omega) rfl)) rfl (fun _ _ => rfl) (by simp only [maxLen]; omega) (by dsimp only; omega)) ?_; ((conv => arg 5; whnf); repeat (refine xS ?_; conv => arg 5; whnf)))
    refine wD <| blockN <| cutG <| Tri.of Tryz.mixed Tryz.T_ok ?_
    (refine wBegin ?_; ((conv => arg 5; whnf); repeat (refine xS ?_; conv => arg 5; whnf)))
    refine wD <| loopN ⟨⟨i + 1, h1'⟩, by dsimp only; omega, ?_⟩
    rw [hw]
    dsimp only
    rw [rsigSt, sigBs_a, List.length_append]
    ((try dsimp only); refine Ent.renC [0, 1, 10] hC ?_ ?_ <;> repeat' (first | exact trivial | exact rfl | exact ⟨_, rfl, rfl, rfl, Nat.le_refl _, fun _ _ => rfl⟩ | exact ⟨_, rfl, rfl, rfl, fun _ _ => rfl⟩ | exact ⟨_, rfl, rfl, rfl⟩ | exact ⟨_, rfl, rfl⟩ | refine ⟨_, rfl, rfl, rfl, by omega, fun k hk => ?_⟩ | refine ⟨?_, ?_⟩ | fail))
    · exact Nat.le_refl _
    exact fun k hk => rowB_join rfl (fun _ _ => rfl) (fun _ _ => rfl) hk
  · (refine wGo ?_; ((conv => arg 5; whnf); repeat (refine xS ?_; conv => arg 5; whnf)))
    have h1' : i = 16 := (by (try simp only [ww] at *); omega)
    subst h1'
    refine wD <| cutE <| loopX <| blockX <| cutG <| Tri.seq ?_
    (refine Tri.cut 1 Tryz.mixed Tryz.T_ok ?_; ((conv => arg 5; whnf); repeat (refine xS ?_; conv => arg 5; whnf)))
    refine wD <| cutG <| Tri.block ?_
    refine Tri.loop (α := { i : Nat // i ≤ 16 }) (fun i => rsigSt s [none] 35 (sigBs s 16 i.1 0) i.1) (fun i => 16 - i.1) ⟨0, Nat.zero_le _⟩ ?_ ?_
    · dsimp only
      rw [rsigSt]
      ((try dsimp only); refine Ent.renC [0, 1, 2] hC ?_ ?_ <;> repeat' (first | exact trivial | exact rfl | exact ⟨_, rfl, rfl, rfl, Nat.le_refl _, fun _ _ => rfl⟩ | exact ⟨_, rfl, rfl, rfl, fun _ _ => rfl⟩ | exact ⟨_, rfl, rfl, rfl⟩ | exact ⟨_, rfl, rfl⟩ | refine ⟨_, rfl, rfl, rfl, by omega, fun k hk => ?_⟩ | refine ⟨?_, ?_⟩ | fail))
    rintro ⟨i, hi⟩
    dsimp only
    have hl := sigBs_len s 16 i 0
    (refine Tri.cut 1 Tryz.mixed Tryz.T_ok ?_; ((conv => arg 5; whnf); repeat (refine xS ?_; conv => arg 5; whnf)))
    refine wC (fun h1 => ?_) (fun h1 => ?_)
    · (refine wGo ?_; ((conv => arg 5; whnf); repeat (refine xS ?_; conv => arg 5; whnf)))
      have h1' : i < 16 := (by (try simp only [ww] at *); omega)
      have hw : IntKind.i64.wrap ((i : Int) + 1) = ((i + 1 : Nat) : Int) := (by (try simp only [ww] at *); omega)
      refine wD <| cutG <| Tri.seq <| Tri.block <| Tri.of Tryz.mixed Tryz.T_ok ?_
      (refine wBegin ?_; ((conv => arg 5; whnf); repeat (refine xS ?_; conv => arg 5; whnf)))
      (repeat (refine wN ?_ ?_; exact (by (try simp only [ww] at *); omega); refine wGo ?_; ((conv => arg 5; whnf); repeat (refine xS ?_; conv => arg 5; whnf))))
      simp only [Nat.zero_add, Int.toNat_natCast]
      (refine wP _ _ (append_op Tryz.T_ok rfl rfl rfl rfl rfl [2, 1] (old_vec rfl rfl (Nat.le_refl _) rfl) (new_sla (g := rowB (s.shut i).l) rfl rfl rfl (fun _ _ => rfl) (tab_hash_at s.shut 129 (sig_cells_b s) h1' rfl (by omega) rfl)) rfl (fun _ _ => rfl) (by simp only [maxLen]; omega) (by dsimp only; omega)) ?_; ((conv => arg 5; whnf); repeat (refine xS ?_; conv => arg 5; whnf)))
      refine wD <| blockN <| cutG <| Tri.of Tryz.mixed Tryz.T_ok ?_
      (refine wBegin ?_; ((conv => arg 5; whnf); repeat (refine xS ?_; conv => arg 5; whnf)))
      refine wD <| loopN ⟨⟨i + 1, h1'⟩, by dsimp only; omega, ?_⟩
      rw [hw]
      dsimp only
      rw [rsigSt, sigBs_b, List.length_append]
      ((try dsimp only); refine Ent.renC [0, 1, 10] hC ?_ ?_ <;> repeat' (first | exact trivial | exact rfl | exact ⟨_, rfl, rfl, rfl, Nat.le_refl _, fun _ _ => rfl⟩ | exact ⟨_, rfl, rfl, rfl, fun _ _ => rfl⟩ | exact ⟨_, rfl, rfl, rfl⟩ | exact ⟨_, rfl, rfl⟩ | refine ⟨_, rfl, rfl, rfl, by omega, fun k hk => ?_⟩ | refine ⟨?_, ?_⟩ | fail))
      · exact Nat.le_refl _
      exact fun k hk => rowB_join rfl (fun _ _ => rfl) (fun _ _ => rfl) hk
    · (refine wGo ?_; ((conv => arg 5; whnf); repeat (refine xS ?_; conv => arg 5; whnf)))
      have h1' : i = 16 := (by (try simp only [ww] at *); omega)
      subst h1'
      refine wD <| cutE <| loopX <| blockX <| cutG <| Tri.seq ?_
      (refine Tri.cut 1 Tryz.mixed Tryz.T_ok ?_; ((conv => arg 5; whnf); repeat (refine xS ?_; conv => arg 5; whnf)))
      refine wD <| cutG <| Tri.block ?_
      refine Tri.loop (α := { i : Nat // i ≤ 3 }) (fun i => rsigSt s [none, none] 34 (sigBs s 16 16 i.1) i.1) (fun i => 3 - i.1) ⟨0, Nat.zero_le _⟩ ?_ ?_
      · dsimp only
        rw [rsigSt]
        ((try dsimp only); refine Ent.renC [0, 1, 2] hC ?_ ?_ <;> repeat' (first | exact trivial | exact rfl | exact ⟨_, rfl, rfl, rfl, Nat.le_refl _, fun _ _ => rfl⟩ | exact ⟨_, rfl, rfl, rfl, fun _ _ => rfl⟩ | exact ⟨_, rfl, rfl, rfl⟩ | exact ⟨_, rfl, rfl⟩ | refine ⟨_, rfl, rfl, rfl, by omega, fun k hk => ?_⟩ | refine ⟨?_, ?_⟩ | fail))
      rintro ⟨i, hi⟩
      dsimp only
      have hl := sigBs_len s 16 16 i
      (refine Tri.cut 1 Tryz.mixed Tryz.T_ok ?_; ((conv => arg 5; whnf); repeat (refine xS ?_; conv => arg 5; whnf)))
      refine wC (fun h1 => ?_) (fun h1 => ?_)
      · (refine wGo ?_; ((conv => arg 5; whnf); repeat (refine xS ?_; conv => arg 5; whnf)))
        have h1' : i < 3 := (by (try simp only [ww] at *); omega)
        have hw : IntKind.i64.wrap ((i : Int) + 1) = ((i + 1 : Nat) : Int) := (by (try simp only [ww] at *); omega)
        refine wD <| cutG <| Tri.seq <| Tri.block <| Tri.of Tryz.mixed Tryz.T_ok ?_
        (refine wBegin ?_; ((conv => arg 5; whnf); repeat (refine xS ?_; conv => arg 5; whnf)))
        (repeat (refine wN ?_ ?_; exact (by (try simp only [ww] at *); omega); refine wGo ?_; ((conv => arg 5; whnf); repeat (refine xS ?_; conv => arg 5; whnf))))
        simp only [Nat.zero_add, Int.toNat_natCast]
        (refine wP _ _ (append_op Tryz.T_ok rfl rfl rfl rfl rfl [2, 1] (old_vec rfl rfl (Nat.le_refl _) rfl) (new_sla (g := rowB (s.path i).l) rfl rfl rfl (fun _ _ => rfl) (tab_hash_at s.path 257 (sig_cells_c s) h1' rfl (by omega) rfl)) rfl (fun _ _ => rfl) (by simp only [maxLen]; omega) (by dsimp only; omega)) ?_; ((conv => arg 5; whnf); repeat (refine xS ?_; conv => arg 5; whnf)))
        refine wD <| blockN <| cutG <| Tri.of Tryz.mixed Tryz.T_ok ?_
        (refine wBegin ?_; ((conv => arg 5; whnf); repeat (refine xS ?_; conv => arg 5; whnf)))
        refine wD <| loopN ⟨⟨i + 1, h1'⟩, by dsimp only; omega, ?_⟩
        rw [hw]
        dsimp only
        rw [rsigSt, sigBs_c, List.length_append]
        ((try dsimp only); refine Ent.renC [0, 1, 10] hC ?_ ?_ <;> repeat' (first | exact trivial | exact rfl | exact ⟨_, rfl, rfl, rfl, Nat.le_refl _, fun _ _ => rfl⟩ | exact ⟨_, rfl, rfl, rfl, fun _ _ => rfl⟩ | exact ⟨_, rfl, rfl, rfl⟩ | exact ⟨_, rfl, rfl⟩ | refine ⟨_, rfl, rfl, rfl, by omega, fun k hk => ?_⟩ | refine ⟨?_, ?_⟩ | fail))
        · exact Nat.le_refl _
        exact fun k hk => rowB_join rfl (fun _ _ => rfl) (fun _ _ => rfl) hk
      · (refine wGo ?_; ((conv => arg 5; whnf); repeat (refine xS ?_; conv => arg 5; whnf)))
        have h1' : i = 3 := (by (try simp only [ww] at *); omega)
        subst h1'
        refine wD <| cutE <| loopX <| blockX <| cutG <| Tri.of Tryz.mixed Tryz.T_ok ?_
        (refine wBegin ?_; ((conv => arg 5; whnf); repeat (refine xS ?_; conv => arg 5; whnf)))
        exact wD (Ends.made (.inr rfl) (Ent.refl _) rfl (Nat.le_of_ble_eq_true rfl) rfl)
end Go.Proofs.YtmoohekgheoliaaGreatDoor
