/- Parts Pb Pc Px Pd Wa. -/
import Derived.Test.YtmoohekgheoliaaGreatDoorG20
import Derived.Test.YtmoohekgheoliaaGreatDoorG22
import Derived.Test.YtmoohekgheoliaaGreatDoorG21
import Derived.Test.YtmoohekgheoliaaGreatDoorG14
import Derived.Sort.Statements
set_option linter.unusedSimpArgs false
set_option linter.unusedVariables false
namespace Go.Proofs.YtmoohekgheoliaaGreatDoor
set_option maxRecDepth 100000
open Go.Sx
theorem sumM_may : ∀ (l : List Int) (a r : Int), mayB a = true → sumM a l = some r → mayB r = true
  | [], a, r, ha, h => by rw [sumM] at h; cases h; exact ha
  | x :: l, a, r, ha, h => by
    rw [sumM] at h
    by_cases hb : bothB a x (IntKind.i64.wrap (a + x)) = true
    · rw [if_pos hb] at h
      refine sumM_may l _ r ?_ h
      rw [bothB, Bool.and_eq_true] at hb
      exact hb.2
    · rw [if_neg hb] at h; cases h
theorem bothB_sub {a b : Int} (ha : mayB a = true) (hb : mayB b = true) : bothB a b (IntKind.i64.wrap (a - b)) = !decide (a < b) := by
  rw [bothB, ha, hb, Bool.true_and, Bool.true_and]
  rw [mayB_iff] at ha hb
  rw [wrap_i64 (n := a - b) (by omega) (by omega), mayB]
  rw [Bool.eq_iff_iff]
  simp only [Bool.and_eq_true, decide_eq_true_eq, Bool.not_eq_true', decide_eq_false_iff_not]
  omega
def AlikeR (S : USet) (R : RC) : Prop := ∀ p, R.isAt p = S.has p ∧ R.get p = S.get p
theorem rcGet_alike {S : USet} {R : RC} (hSR : AlikeR S R) (hPC : R.P.length = R.C.length) (hlen : R.P.length < 1000000) (p : Pt) {M : Mem} {c0 d : Nat} (hM : M.get c0 = some (.abs (rcP R))) (hd : Nat.beq d c0 = false) : CallSpec Tryz.prog 42 [.one (.ptr c0 0 0 0), p.cv] M d { v := .tup [(S.get p).cv, .one (.raw (.bool (S.has p)))], upd := [(c0, .abs (rcP R))], wr := [c0] } [c0] := by
  rw [← (hSR p).1, ← (hSR p).2]
  exact rcGet_spec R p hPC hlen hM hd
def rpM (R : RC) (t : TxM) (n : Nat) (L : List Int) (m : Nat) (K : List Int) : Mem := (0, .abs (rcP R)) :: (txRows t ++ [(8, .cells 49 (boxC 1 t.ac)), (9, .vec 3 1 n (amtsF L)), (10, .vec 3 1 m (amtsF K))])
def rpSt (R : RC) (t : TxM) (h : Int) (n : Nat) (L : List Int) (m : Nat) (K : List Int) (s10 s16 s17 : Option XV) : St :=
  ⟨[some (XV.sv (.ptr 0 0 0 0)), none, some (XV.int .i64 h), none, some (XV.sv (.ptr 8 0 0 0)), none, none, none, some (XV.sv (.slc 9 1 0 n)), some (XV.sv (.slc 10 1 0 m)), s10, none, none, none, none, none, s16, s17] ++ List.replicate 133 none, rpM R t n L m K, 11⟩
set_option maxHeartbeats 8000000 in
theorem rpay_can (S : USet) (R : RC) (hSR : AlikeR S R) (hPC : R.P.length = R.C.length) (hlen : R.P.length < 1000000) (t : TxM) (h : Int) (hk : t.kind = 2) (hs : Sized t) (hc : t.claim.Wf) (hm : mayPay t hc = true) :
    Acts Tryz.prog 19 (.abs (rcP R)) (.abs (rcP R)) [.box t.ac, .plain (.one (.raw (.int .i64 h)))] [] (intsX (payE S t h)) := by
  have hmay := mayTx_can t hk hs hc
  rw [hm] at hmay
  have hins : t.ins.length ≤ 8 := by
    have := (mayPay_iff.1 hm).1
    rw [payB, Bool.and_eq_true, insOK, Bool.and_eq_true, within_iff] at this
    omega
  have hob := hs.outs
  have hfb := hs.fwds
  refine Acts.of Tryz.T_ok Tryz.func19 rfl _ _ _ _ _ rfl rfl rfl (fun C hC => ?_)
  (replace hC : C.n0 = 8 := hC; change Tri _ _ _ ⟨_, _, 8⟩ _)
  (refine Tri.cut 3 Tryz.mixed Tryz.T_ok ?_; ((conv => arg 5; whnf); repeat (refine xS ?_; conv => arg 5; whnf)))
  (refine wFd ?_ ?_; (first | refine decide_eq_false ?_ | rw [beq_eq_false_iff_ne] | rw [bne_eq_false_iff_eq]); exact (by (try simp only [ww] at *); omega); refine wGo ?_; ((conv => arg 5; whnf); repeat (refine xS ?_; conv => arg 5; whnf)))
  (apply wP; exact (call_op rfl (entersB_of Tryz.func41 (by kernel_rfl)) rfl (hmay.at [1, 2, 3, 4, 5, 6] ⟨lend_tx (t := t) (lend_ro0 rfl rfl) (lend_ro0 rfl rfl) (lend_ro0 rfl rfl) (lend_ro0 rfl rfl) (lend_ro0 rfl rfl) (lend_ro0 rfl rfl), trivial⟩ trivial)); ((conv => arg 5; whnf); repeat (refine xS ?_; conv => arg 5; whnf)))
  refine wD <| cutG <| Tri.ent (Ent.nils (t := 8) rfl 3 1) <| Tri.ent (Ent.nils (t := 9) rfl 3 1) <| Tri.seq ?_
  (refine Tri.cut 1 Tryz.mixed Tryz.T_ok ?_; ((conv => arg 5; whnf); repeat (refine xS ?_; conv => arg 5; whnf)))
  refine wD <| cutG <| Tri.block ?_
  refine Tri.loop (α := { i : Nat // i ≤ t.ins.length ∧ firstE S t h i = 0 }) (fun i => rpSt R t h i.1 (inAmts S t h i.1) 0 [] (some (XV.int .i64 i.1)) none none) (fun i => t.ins.length - i.1) ⟨0, Nat.zero_le _, rfl⟩ ?_ ?_
  · unfold rpSt rpM
    ((try dsimp only); refine Ent.renC [0, 1, 2, 3, 4, 5, 6, 7, 8, 21, 22] hC ?_ ?_ <;> repeat' (first | exact trivial | exact rfl | exact ⟨_, rfl, rfl, rfl, Nat.le_refl _, fun _ _ => rfl⟩ | exact ⟨_, rfl, rfl, rfl, fun _ _ => rfl⟩ | exact ⟨_, rfl, rfl, rfl⟩ | exact ⟨_, rfl, rfl⟩ | refine ⟨_, rfl, rfl, rfl, by omega, fun k hk => ?_⟩ | refine ⟨?_, ?_⟩ | fail))
    all_goals exact absurd hk (Nat.not_lt_zero _)
  rintro ⟨i, hi, he⟩
  unfold rpSt rpM
  dsimp only
  (refine Tri.cut 1 Tryz.mixed Tryz.T_ok ?_; ((conv => arg 5; whnf); repeat (refine xS ?_; conv => arg 5; whnf)))
  refine wC (fun h1 => ?_) (fun h1 => ?_)
  · (refine wGo ?_; ((conv => arg 5; whnf); repeat (refine xS ?_; conv => arg 5; whnf)))
    have h1' : i < t.ins.length := (by (try simp only [ww] at *); omega)
    have hw : IntKind.i64.wrap ((i : Int) + 1) = ((i + 1 : Nat) : Int) := (by (try simp only [ww] at *); omega)
    have hA := inAmts_succ S t h i
    have hF : firstE S t h (i + 1) = (inAt S t h i).2 := by rw [firstE, if_pos he]
    have late : ∀ e, (inAt S t h i).2 = e → e ≠ 0 → payE S t h = (0, e) := fun e h2 h3 => by
      have hl : firstE S t h t.ins.length = e := by rw [firstE_late (m := i + 1) h1' (by rw [hF, h2]; exact h3), hF, h2]
      rw [payE, if_neg (by rw [hl]; exact h3), hl]
    obtain ⟨x, hx⟩ : ∃ x, t.ins.getD i default = x := ⟨_, rfl⟩
    have hin : inAt S t h i = inE S t i h x := by rw [inAt, hx]
    have bad : badIn S x = true → inE S t i h x = (coin0, 6) := fun e => by rw [inE, if_pos e]
    have good : badIn S x = false → inE S t i h x = if ((S.get x.pt).base && waitB (S.get x.pt).height.toInt h) = true then (coin0, 20) else if chkT x.key (msgH t i) x.sig = false then (coin0, 7) else (S.get x.pt, 0) := fun e => by rw [inE, if_neg (by rw [e]; simp)]
    refine wD <| cutG <| Tri.seq <| Tri.block <| Tri.of Tryz.mixed Tryz.T_ok ?_
    (refine wBegin ?_; ((conv => arg 5; whnf); repeat (refine xS ?_; conv => arg 5; whnf)))
    (repeat (refine wN ?_ ?_; exact (by (try simp only [ww] at *); omega); refine wGo ?_; ((conv => arg 5; whnf); repeat (refine xS ?_; conv => arg 5; whnf))))
    simp only [Nat.zero_add, Int.toNat_natCast, hx]
    (apply wP; exact (call_op rfl (entersB_of Tryz.func42 (by kernel_rfl)) rfl (rcGet_alike hSR hPC hlen x.pt rfl rfl)); ((conv => arg 5; whnf); repeat (refine xS ?_; conv => arg 5; whnf)))
    refine wC (fun h2 => ?_) (fun h2 => ?_)
    · have h2 : S.has x.pt = false := by simpa using h2
      (refine wGo ?_; ((conv => arg 5; whnf); repeat (refine xS ?_; conv => arg 5; whnf)))
      refine wD <| blockR <| cutR <| loopR <| blockR <| cutR <| Ends.shutN (.inr rfl) (Ent.refl _) rfl rfl ?_
      rw [late 6 (by rw [hin, bad (by rw [badIn, h2]; rfl)]) (by decide)]; rfl
    · have h2 : S.has x.pt = true := by simpa using h2
      (refine wGo ?_; ((conv => arg 5; whnf); repeat (refine xS ?_; conv => arg 5; whnf)))
      (refine wP _ _ (neq_op hashE rfl (S.get x.pt).to x.key rfl rfl) ?_; ((conv => arg 5; whnf); repeat (refine xS ?_; conv => arg 5; whnf)))
      refine wC (fun h3 => ?_) (fun h3 => ?_)
      · (refine wGo ?_; ((conv => arg 5; whnf); repeat (refine xS ?_; conv => arg 5; whnf)))
        refine wD <| blockR <| cutR <| loopR <| blockR <| cutR <| Ends.shutN (.inr rfl) (Ent.refl _) rfl rfl ?_
        rw [late 6 (by rw [hin, bad (by rw [badIn, h2, h3]; rfl)]) (by decide)]; rfl
      · (refine wGo ?_; ((conv => arg 5; whnf); repeat (refine xS ?_; conv => arg 5; whnf)))
        replace good := good (by rw [badIn, h2, h3]; rfl)
        refine wC (fun h4 => ?_) (fun h4 => ?_)
        · (refine wGo ?_; ((conv => arg 5; whnf); repeat (refine xS ?_; conv => arg 5; whnf)))
          refine wC (fun h6 => ?_) (fun h6 => ?_)
          · (refine wGo ?_; ((conv => arg 5; whnf); repeat (refine xS ?_; conv => arg 5; whnf)))
            refine wD <| blockR <| cutR <| loopR <| blockR <| cutR <| Ends.shutN (.inr rfl) (Ent.refl _) rfl rfl ?_
            rw [late 20 (by rw [hin, good, if_pos (by rw [waitB, h4, h6]; rfl)]) (by decide)]; rfl
          · (refine wGo ?_; ((conv => arg 5; whnf); repeat (refine xS ?_; conv => arg 5; whnf)))
            refine wC (fun h7 => ?_) (fun h7 => ?_)
            · (refine wGo ?_; ((conv => arg 5; whnf); repeat (refine xS ?_; conv => arg 5; whnf)))
              refine wD <| blockR <| cutR <| loopR <| blockR <| cutR <| Ends.shutN (.inr rfl) (Ent.refl _) rfl rfl ?_
              rw [late 20 (by rw [hin, good, if_pos (by rw [waitB, h4, h6, h7]; rfl)]) (by decide)]; rfl
            · (refine wGo ?_; ((conv => arg 5; whnf); repeat (refine xS ?_; conv => arg 5; whnf)))
              rw [if_neg (by rw [waitB, h4, h6, h7]; simp)] at good
              (apply wP; exact (call_op rfl (entersB_of Tryz.func26 (by kernel_rfl)) rfl ((rmessage_can t i hk hs hc hm h1').at [1, 2, 3, 4, 5, 6] ⟨lend_tx (t := t) (lend_ro0 rfl rfl) (lend_ro0 rfl rfl) (lend_ro0 rfl rfl) (lend_ro0 rfl rfl) (lend_ro0 rfl rfl) (lend_ro0 rfl rfl), lend_plain rfl, trivial⟩ trivial)); ((conv => arg 5; whnf); repeat (refine xS ?_; conv => arg 5; whnf)))
              (apply wP; exact (call_op rfl (entersB_of Tryz.func43 (by kernel_rfl)) rfl ((checkTree_can x.key (msgH t i) x.sig).at [] ⟨lend_plain rfl, lend_plain rfl, lend_plain rfl, trivial⟩ trivial)); ((conv => arg 5; whnf); repeat (refine xS ?_; conv => arg 5; whnf)))
              refine wC (fun h5 => ?_) (fun h5 => ?_)
              · have h5 : chkT x.key (msgH t i) x.sig = false := by simpa using h5
                (refine wGo ?_; ((conv => arg 5; whnf); repeat (refine xS ?_; conv => arg 5; whnf)))
                refine wD <| blockR <| cutR <| loopR <| blockR <| cutR <| Ends.shutN (.inr rfl) (Ent.refl _) rfl rfl ?_
                rw [late 7 (by rw [hin, good, if_pos h5]) (by decide)]; rfl
              · have h5 : chkT x.key (msgH t i) x.sig = true := by simpa using h5
                have hR : inAt S t h i = (S.get x.pt, 0) := by rw [hin, good, if_neg (by rw [h5]; simp)]
                rw [hR] at hA hF
                (refine wGo ?_; ((conv => arg 5; whnf); repeat (refine xS ?_; conv => arg 5; whnf)))
                (refine wP _ _ (append_op Tryz.T_ok rfl rfl rfl rfl rfl [9, 80] (old_vec rfl rfl (Nat.le_refl _) rfl) (new_vec (lo := 0) rfl rfl (Nat.le_refl _) rfl) rfl (lt1 rfl) (by simp only [maxLen]; omega) (by dsimp only; omega)) ?_; ((conv => arg 5; whnf); repeat (refine xS ?_; conv => arg 5; whnf)))
                refine wD <| blockN <| cutG <| Tri.of Tryz.mixed Tryz.T_ok ?_
                (refine wBegin ?_; ((conv => arg 5; whnf); repeat (refine xS ?_; conv => arg 5; whnf)))
                refine wD <| loopN ⟨⟨i + 1, h1', hF⟩, by dsimp only; omega, ?_⟩
                rw [hw]
                dsimp only
                rw [hA]
                ((try dsimp only); refine Ent.renC [0, 1, 2, 3, 4, 5, 6, 7, 8, 81, 10] hC ?_ ?_ <;> repeat' (first | exact trivial | exact rfl | exact ⟨_, rfl, rfl, rfl, Nat.le_refl _, fun _ _ => rfl⟩ | exact ⟨_, rfl, rfl, rfl, fun _ _ => rfl⟩ | exact ⟨_, rfl, rfl, rfl⟩ | exact ⟨_, rfl, rfl⟩ | refine ⟨_, rfl, rfl, rfl, by omega, fun k hk => ?_⟩ | refine ⟨?_, ?_⟩ | fail))
                exact amts_snoc (inAmts_length _ _ _ _).symm rfl hk
        · (refine wGo ?_; ((conv => arg 5; whnf); repeat (refine xS ?_; conv => arg 5; whnf)))
          rw [if_neg (by rw [h4]; simp)] at good
          (apply wP; exact (call_op rfl (entersB_of Tryz.func26 (by kernel_rfl)) rfl ((rmessage_can t i hk hs hc hm h1').at [1, 2, 3, 4, 5, 6] ⟨lend_tx (t := t) (lend_ro0 rfl rfl) (lend_ro0 rfl rfl) (lend_ro0 rfl rfl) (lend_ro0 rfl rfl) (lend_ro0 rfl rfl) (lend_ro0 rfl rfl), lend_plain rfl, trivial⟩ trivial)); ((conv => arg 5; whnf); repeat (refine xS ?_; conv => arg 5; whnf)))
          (apply wP; exact (call_op rfl (entersB_of Tryz.func43 (by kernel_rfl)) rfl ((checkTree_can x.key (msgH t i) x.sig).at [] ⟨lend_plain rfl, lend_plain rfl, lend_plain rfl, trivial⟩ trivial)); ((conv => arg 5; whnf); repeat (refine xS ?_; conv => arg 5; whnf)))
          refine wC (fun h5 => ?_) (fun h5 => ?_)
          · have h5 : chkT x.key (msgH t i) x.sig = false := by simpa using h5
            (refine wGo ?_; ((conv => arg 5; whnf); repeat (refine xS ?_; conv => arg 5; whnf)))
            refine wD <| blockR <| cutR <| loopR <| blockR <| cutR <| Ends.shutN (.inr rfl) (Ent.refl _) rfl rfl ?_
            rw [late 7 (by rw [hin, good, if_pos h5]) (by decide)]; rfl
          · have h5 : chkT x.key (msgH t i) x.sig = true := by simpa using h5
            have hR : inAt S t h i = (S.get x.pt, 0) := by rw [hin, good, if_neg (by rw [h5]; simp)]
            rw [hR] at hA hF
            (refine wGo ?_; ((conv => arg 5; whnf); repeat (refine xS ?_; conv => arg 5; whnf)))
            (refine wP _ _ (append_op Tryz.T_ok rfl rfl rfl rfl rfl [9, 80] (old_vec rfl rfl (Nat.le_refl _) rfl) (new_vec (lo := 0) rfl rfl (Nat.le_refl _) rfl) rfl (lt1 rfl) (by simp only [maxLen]; omega) (by dsimp only; omega)) ?_; ((conv => arg 5; whnf); repeat (refine xS ?_; conv => arg 5; whnf)))
            refine wD <| blockN <| cutG <| Tri.of Tryz.mixed Tryz.T_ok ?_
            (refine wBegin ?_; ((conv => arg 5; whnf); repeat (refine xS ?_; conv => arg 5; whnf)))
            refine wD <| loopN ⟨⟨i + 1, h1', hF⟩, by dsimp only; omega, ?_⟩
            rw [hw]
            dsimp only
            rw [hA]
            ((try dsimp only); refine Ent.renC [0, 1, 2, 3, 4, 5, 6, 7, 8, 81, 10] hC ?_ ?_ <;> repeat' (first | exact trivial | exact rfl | exact ⟨_, rfl, rfl, rfl, Nat.le_refl _, fun _ _ => rfl⟩ | exact ⟨_, rfl, rfl, rfl, fun _ _ => rfl⟩ | exact ⟨_, rfl, rfl, rfl⟩ | exact ⟨_, rfl, rfl⟩ | refine ⟨_, rfl, rfl, rfl, by omega, fun k hk => ?_⟩ | refine ⟨?_, ?_⟩ | fail))
            exact amts_snoc (inAmts_length _ _ _ _).symm rfl hk
  · (refine wGo ?_; ((conv => arg 5; whnf); repeat (refine xS ?_; conv => arg 5; whnf)))
    have h1' : i = t.ins.length := (by (try simp only [ww] at *); omega)
    subst h1'
    refine wD <| cutE <| loopX <| blockX <| cutG <| Tri.seq ?_
    (refine Tri.cut 1 Tryz.mixed Tryz.T_ok ?_; ((conv => arg 5; whnf); repeat (refine xS ?_; conv => arg 5; whnf)))
    refine wD <| cutG <| Tri.block ?_
    refine Tri.loop (α := { j : Nat // j ≤ t.outs.length }) (fun j => rpSt R t h t.ins.length (inAmts S t h t.ins.length) j.1 ((t.outs.take j.1).map fun o => o.amt.toInt) none (some (XV.int .i64 j.1)) none) (fun j => t.outs.length - j.1) ⟨0, Nat.zero_le _⟩ ?_ ?_
    · unfold rpSt rpM
      dsimp only
      rw [List.take_zero, List.map_nil]
      ((try dsimp only); refine Ent.renC [0, 1, 2, 3, 4, 5, 6, 7, 8, 9, 10] hC ?_ ?_ <;> repeat' (first | exact trivial | exact rfl | exact ⟨_, rfl, rfl, rfl, Nat.le_refl _, fun _ _ => rfl⟩ | exact ⟨_, rfl, rfl, rfl, fun _ _ => rfl⟩ | exact ⟨_, rfl, rfl, rfl⟩ | exact ⟨_, rfl, rfl⟩ | refine ⟨_, rfl, rfl, rfl, by omega, fun k hk => ?_⟩ | refine ⟨?_, ?_⟩ | fail))
    rintro ⟨j, hj⟩
    unfold rpSt rpM
    dsimp only
    (refine Tri.cut 1 Tryz.mixed Tryz.T_ok ?_; ((conv => arg 5; whnf); repeat (refine xS ?_; conv => arg 5; whnf)))
    refine wC (fun h2 => ?_) (fun h2 => ?_)
    · (refine wGo ?_; ((conv => arg 5; whnf); repeat (refine xS ?_; conv => arg 5; whnf)))
      have h2' : j < t.outs.length := (by (try simp only [ww] at *); omega)
      have hw : IntKind.i64.wrap ((j : Int) + 1) = ((j + 1 : Nat) : Int) := (by (try simp only [ww] at *); omega)
      refine wD <| cutG <| Tri.seq <| Tri.block <| Tri.of Tryz.mixed Tryz.T_ok ?_
      (refine wBegin ?_; ((conv => arg 5; whnf); repeat (refine xS ?_; conv => arg 5; whnf)))
      (repeat (refine wN ?_ ?_; exact (by (try simp only [ww] at *); omega); refine wGo ?_; ((conv => arg 5; whnf); repeat (refine xS ?_; conv => arg 5; whnf))))
      simp only [Nat.zero_add, Int.toNat_natCast]
      (refine wP _ _ (append_op Tryz.T_ok rfl rfl rfl rfl rfl [10, 23] (old_vec rfl rfl (Nat.le_refl _) rfl) (new_vec (lo := 0) rfl rfl (Nat.le_refl _) rfl) rfl (lt1 rfl) (by simp only [maxLen]; omega) (by dsimp only; omega)) ?_; ((conv => arg 5; whnf); repeat (refine xS ?_; conv => arg 5; whnf)))
      refine wD <| blockN <| cutG <| Tri.of Tryz.mixed Tryz.T_ok ?_
      (refine wBegin ?_; ((conv => arg 5; whnf); repeat (refine xS ?_; conv => arg 5; whnf)))
      refine wD <| loopN ⟨⟨j + 1, h2'⟩, by dsimp only; omega, ?_⟩
      rw [hw]
      dsimp only
      rw [map_take_succ _ h2']
      ((try dsimp only); refine Ent.renC [0, 1, 2, 3, 4, 5, 6, 7, 8, 9, 24] hC ?_ ?_ <;> repeat' (first | exact trivial | exact rfl | exact ⟨_, rfl, rfl, rfl, Nat.le_refl _, fun _ _ => rfl⟩ | exact ⟨_, rfl, rfl, rfl, fun _ _ => rfl⟩ | exact ⟨_, rfl, rfl, rfl⟩ | exact ⟨_, rfl, rfl⟩ | refine ⟨_, rfl, rfl, rfl, by omega, fun k hk => ?_⟩ | refine ⟨?_, ?_⟩ | fail))
      exact amts_snoc (by rw [List.length_map, List.length_take]; omega) rfl hk
    · (refine wGo ?_; ((conv => arg 5; whnf); repeat (refine xS ?_; conv => arg 5; whnf)))
      have h2' : j = t.outs.length := (by (try simp only [ww] at *); omega)
      subst h2'
      rw [List.take_length]
      refine wD <| cutE <| loopX <| blockX <| cutG <| Tri.seq ?_
      (refine Tri.cut 1 Tryz.mixed Tryz.T_ok ?_; ((conv => arg 5; whnf); repeat (refine xS ?_; conv => arg 5; whnf)))
      refine wD <| cutG <| Tri.block ?_
      refine Tri.loop (α := { j : Nat // j ≤ t.fwds.length }) (fun j => rpSt R t h t.ins.length (inAmts S t h t.ins.length) (t.outs.length + j.1) ((t.outs.map fun o => o.amt.toInt) ++ (t.fwds.take j.1).map fun f => f.amt.toInt) none none (some (XV.int .i64 j.1))) (fun j => t.fwds.length - j.1) ⟨0, Nat.zero_le _⟩ ?_ ?_
      · unfold rpSt rpM
        dsimp only
        rw [List.take_zero, List.map_nil, List.append_nil, Nat.add_zero]
        ((try dsimp only); refine Ent.renC [0, 1, 2, 3, 4, 5, 6, 7, 8, 9, 10] hC ?_ ?_ <;> repeat' (first | exact trivial | exact rfl | exact ⟨_, rfl, rfl, rfl, Nat.le_refl _, fun _ _ => rfl⟩ | exact ⟨_, rfl, rfl, rfl, fun _ _ => rfl⟩ | exact ⟨_, rfl, rfl, rfl⟩ | exact ⟨_, rfl, rfl⟩ | refine ⟨_, rfl, rfl, rfl, by omega, fun k hk => ?_⟩ | refine ⟨?_, ?_⟩ | fail))
      rintro ⟨j, hj⟩
      unfold rpSt rpM
      dsimp only
      (refine Tri.cut 1 Tryz.mixed Tryz.T_ok ?_; ((conv => arg 5; whnf); repeat (refine xS ?_; conv => arg 5; whnf)))
      refine wC (fun h3 => ?_) (fun h3 => ?_)
      · (refine wGo ?_; ((conv => arg 5; whnf); repeat (refine xS ?_; conv => arg 5; whnf)))
        have h3' : j < t.fwds.length := (by (try simp only [ww] at *); omega)
        have hw : IntKind.i64.wrap ((j : Int) + 1) = ((j + 1 : Nat) : Int) := (by (try simp only [ww] at *); omega)
        refine wD <| cutG <| Tri.seq <| Tri.block <| Tri.of Tryz.mixed Tryz.T_ok ?_
        (refine wBegin ?_; ((conv => arg 5; whnf); repeat (refine xS ?_; conv => arg 5; whnf)))
        (repeat (refine wN ?_ ?_; exact (by (try simp only [ww] at *); omega); refine wGo ?_; ((conv => arg 5; whnf); repeat (refine xS ?_; conv => arg 5; whnf))))
        simp only [Nat.zero_add, Int.toNat_natCast]
        (refine wP _ _ (append_op Tryz.T_ok rfl rfl rfl rfl rfl [10, 23] (old_vec rfl rfl (Nat.le_refl _) rfl) (new_vec (lo := 0) rfl rfl (Nat.le_refl _) rfl) rfl (lt1 rfl) (by simp only [maxLen]; omega) (by dsimp only; omega)) ?_; ((conv => arg 5; whnf); repeat (refine xS ?_; conv => arg 5; whnf)))
        refine wD <| blockN <| cutG <| Tri.of Tryz.mixed Tryz.T_ok ?_
        (refine wBegin ?_; ((conv => arg 5; whnf); repeat (refine xS ?_; conv => arg 5; whnf)))
        refine wD <| loopN ⟨⟨j + 1, h3'⟩, by dsimp only; omega, ?_⟩
        rw [hw]
        dsimp only
        rw [map_take_succ _ h3', ← List.append_assoc]
        ((try dsimp only); refine Ent.renC [0, 1, 2, 3, 4, 5, 6, 7, 8, 9, 24] hC ?_ ?_ <;> repeat' (first | exact trivial | exact rfl | exact ⟨_, rfl, rfl, rfl, Nat.le_refl _, fun _ _ => rfl⟩ | exact ⟨_, rfl, rfl, rfl, fun _ _ => rfl⟩ | exact ⟨_, rfl, rfl, rfl⟩ | exact ⟨_, rfl, rfl⟩ | refine ⟨_, rfl, rfl, rfl, by omega, fun k hk => ?_⟩ | refine ⟨?_, ?_⟩ | fail))
        exact amts_snoc (by simp only [List.length_append, List.length_map, List.length_take]; omega) rfl hk
      · (refine wGo ?_; ((conv => arg 5; whnf); repeat (refine xS ?_; conv => arg 5; whnf)))
        have h3' : j = t.fwds.length := (by (try simp only [ww] at *); omega)
        subst h3'
        rw [List.take_length]
        refine wD <| cutE <| loopX <| blockX <| cutG <| Tri.of Tryz.mixed Tryz.T_ok ?_
        have hL := inAmts_length S t h t.ins.length
        have hL2 : (payAmts t).length = t.outs.length + t.fwds.length := by simp [payAmts]
        have hp : payE S t h = feeE (sumM 0 (inAmts S t h t.ins.length)) (sumM 0 (payAmts t)) := by rw [payE, if_pos he]
        obtain ⟨A, hA⟩ : ∃ A, sumM 0 (inAmts S t h t.ins.length) = A := ⟨_, rfl⟩
        obtain ⟨B, hB⟩ : ∃ B, sumM 0 (payAmts t) = B := ⟨_, rfl⟩
        have cA := rmsum_can (inAmts S t h t.ins.length) (by omega)
        have cB := rmsum_can (payAmts t) (by omega)
        have mA := sumM_may (inAmts S t h t.ins.length) 0
        have mB := sumM_may (payAmts t) 0
        rw [sumX, hA] at cA
        rw [sumX, hB] at cB
        rw [hA] at mA
        rw [hB] at mB
        rw [hA, hB] at hp
        (refine wBegin ?_; ((conv => arg 5; whnf); repeat (refine xS ?_; conv => arg 5; whnf)))
        (apply wP; exact (call_op rfl (entersB_of Tryz.func44 (by kernel_rfl)) rfl (cA.at [9] ⟨by rw [hL]; exact lend_vec0 rfl rfl, trivial⟩ trivial)); ((conv => arg 5; whnf); repeat (refine xS ?_; conv => arg 5; whnf)))
        (apply wP; exact (call_op rfl (entersB_of Tryz.func44 (by kernel_rfl)) rfl (cB.at [10] ⟨by rw [hL2]; exact lend_vec0 rfl rfl, trivial⟩ trivial)); ((conv => arg 5; whnf); repeat (refine xS ?_; conv => arg 5; whnf)))
        refine wC (fun h4 => ?_) (fun h4 => ?_)
        · (refine wGo ?_; ((conv => arg 5; whnf); repeat (refine xS ?_; conv => arg 5; whnf)))
          refine wD (Ends.shutN (.inr rfl) (Ent.refl _) rfl rfl ?_)
          rw [hp, feeE, if_pos (by rw [h4]; rfl)]; rfl
        · (refine wGo ?_; ((conv => arg 5; whnf); repeat (refine xS ?_; conv => arg 5; whnf)))
          refine wC (fun h5 => ?_) (fun h5 => ?_)
          · (refine wGo ?_; ((conv => arg 5; whnf); repeat (refine xS ?_; conv => arg 5; whnf)))
            refine wD (Ends.shutN (.inr rfl) (Ent.refl _) rfl rfl ?_)
            rw [hp, feeE, if_pos (by rw [h4, h5]; rfl)]; rfl
          · (refine wGo ?_; ((conv => arg 5; whnf); repeat (refine xS ?_; conv => arg 5; whnf)))
            obtain ⟨a, rfl⟩ := Option.isSome_iff_exists.1 (by simpa using h4 : A.isSome = true)
            obtain ⟨b, rfl⟩ := Option.isSome_iff_exists.1 (by simpa using h5 : B.isSome = true)
            have hb := bothB_sub (mA a (by decide) rfl) (mB b (by decide) rfl)
            refine wC (fun h6 => ?_) (fun h6 => ?_)
            · have h6' : decide (a < b) = true := by simpa using h6
              (refine wGo ?_; ((conv => arg 5; whnf); repeat (refine xS ?_; conv => arg 5; whnf)))
              refine wD (Ends.shutN (.inr rfl) (Ent.refl _) rfl rfl ?_)
              rw [hp, feeE, if_pos (by show (!true || (!true || !bothB a b (IntKind.i64.wrap (a - b)))) = true; rw [hb, h6']; rfl)]; rfl
            · have h6' : decide (a < b) = false := by simpa using h6
              (refine wGo ?_; ((conv => arg 5; whnf); repeat (refine xS ?_; conv => arg 5; whnf)))
              refine wD (Ends.shutN (.inr rfl) (Ent.refl _) rfl rfl ?_)
              rw [hp, feeE, if_neg (by show ¬ (!true || (!true || !bothB a b (IntKind.i64.wrap (a - b)))) = true; rw [hb, h6']; decide)]; rfl
end Go.Proofs.YtmoohekgheoliaaGreatDoor
namespace Go.Proofs.YtmoohekgheoliaaGreatDoor
set_option maxRecDepth 100000
open Go.Sx
end Go.Proofs.YtmoohekgheoliaaGreatDoor
namespace Go.Proofs.YtmoohekgheoliaaGreatDoor
set_option maxRecDepth 100000
open Go.Lib Go.Sort
def bigL : List UInt8 → Nat
  | [] => 0
  | x :: r => x.toNat * 256 ^ r.length + bigL r
theorem bigL_lt : ∀ l : List UInt8, bigL l < 256 ^ l.length
  | [] => by simp [bigL]
  | x :: r => by
    have := bigL_lt r
    have h := x.toNat_lt
    simp only [bigL, List.length_cons, Nat.pow_succ]
    have : (x.toNat + 1) * 256 ^ r.length ≤ 256 * 256 ^ r.length := Nat.mul_le_mul_right _ (by omega)
    rw [Nat.add_mul, Nat.one_mul] at this
    omega
theorem num_step (x y : UInt8) (m a b : Nat) (ha : a < m) (hb : b < m) : (x.toNat * m + a < y.toNat * m + b ↔ x.toNat < y.toNat ∨ (x = y ∧ a < b)) ∧ (x.toNat * m + a = y.toNat * m + b ↔ x = y ∧ a = b) := by
  rcases Nat.lt_trichotomy x.toNat y.toNat with h | h | h
  · have h1 : (x.toNat + 1) * m ≤ y.toNat * m := Nat.mul_le_mul_right _ h
    rw [Nat.add_mul, Nat.one_mul] at h1
    have hne : x ≠ y := fun e => by rw [e] at h; omega
    exact ⟨⟨fun _ => .inl h, fun _ => by omega⟩, ⟨fun e => by omega, fun e => absurd e.1 hne⟩⟩
  · have e : x = y := UInt8.toNat_inj.1 h
    subst e
    exact ⟨⟨fun h => .inr ⟨rfl, by omega⟩, fun h => by rcases h with h | h <;> omega⟩, ⟨fun h => ⟨rfl, by omega⟩, fun h => by omega⟩⟩
  · have h1 : (y.toNat + 1) * m ≤ x.toNat * m := Nat.mul_le_mul_right _ h
    rw [Nat.add_mul, Nat.one_mul] at h1
    have hne : x ≠ y := fun e => by rw [e] at h; omega
    exact ⟨⟨fun _ => by omega, fun e => by rcases e with e | e; omega; exact absurd e.1 hne⟩, ⟨fun e => by omega, fun e => absurd e.1 hne⟩⟩
theorem bigL_inj : ∀ {a b : List UInt8}, a.length = b.length → bigL a = bigL b → a = b
  | [], [], _, _ => rfl
  | x :: a, y :: b, hl, h => by
    have hl' : a.length = b.length := by simpa using hl
    simp only [bigL, hl'] at h
    obtain ⟨rfl, h2⟩ := (num_step x y _ _ _ (hl' ▸ bigL_lt a) (bigL_lt b)).2.1 h
    rw [bigL_inj hl' h2]
theorem ltL_num : ∀ {a b : List UInt8}, a.length = b.length → (ltL a b = true ↔ bigL a < bigL b)
  | [], [], _ => by simp [ltL, bigL]
  | x :: a, y :: b, hl => by
    have hl' : a.length = b.length := by simpa using hl
    have h := (num_step x y _ _ _ (hl' ▸ bigL_lt a) (bigL_lt b)).1
    simp only [ltL, bigL, hl', h]
    by_cases e : x = y
    · subst e; simp [ltL_num hl']
    · simp [e, UInt8.lt_iff_toNat_lt]
def Pt.num (p : Pt) : Nat := bigL p.tx.l
theorem Pt.num_tx {p q : Pt} : p.num = q.num ↔ p.tx = q.tx := by
  constructor
  · intro h
    have h := bigL_inj (a := p.tx.l) (b := q.tx.l) rfl h
    obtain ⟨⟨_, _, _, _, _, _, _, _⟩, _⟩ := p
    obtain ⟨⟨_, _, _, _, _, _, _, _⟩, _⟩ := q
    simp only [H8.l, List.cons.injEq, and_true] at h
    obtain ⟨rfl, rfl, rfl, rfl, rfl, rfl, rfl, rfl⟩ := h
    rfl
  · intro h; simp only [Pt.num, h]
theorem ltPt_num (p q : Pt) : ltPt p q = true ↔ p.num < q.num ∨ (p.num = q.num ∧ p.no.toInt < q.no.toInt) := by
  unfold ltPt
  simp only [Bool.or_eq_true, Bool.and_eq_true, decide_eq_true_eq, ltL_num (a := p.tx.l) (b := q.tx.l) rfl, Pt.num_tx]
  rfl
theorem ltPt_false (p q : Pt) : ltPt p q = false ↔ ¬ (p.num < q.num ∨ (p.num = q.num ∧ p.no.toInt < q.no.toInt)) := by
  rw [← ltPt_num]; simp
theorem ltPt_swo : SWO ltPt where
  irrefl x := by rw [ltPt_false]; omega
  trans x y z h1 h2 := by rw [ltPt_num] at *; omega
  ntrans x y z h1 h2 := by rw [ltPt_false] at *; omega
theorem Pt.eq_of {p q : Pt} (h1 : p.num = q.num) (h2 : p.no.toInt = q.no.toInt) : p = q := by
  have h1 := Pt.num_tx.1 h1
  have h2 := Int64.toInt_inj.1 h2
  obtain ⟨_, _⟩ := p
  obtain ⟨_, _⟩ := q
  subst h1 h2
  rfl
theorem ltPt_total (x y : Pt) (h1 : ltPt x y = false) (h2 : ltPt y x = false) : x = y := by
  rw [ltPt_false] at *
  exact Pt.eq_of (by omega) (by omega)
def sortPts (l : List Pt) : List Pt := l.mergeSort fun x y => !ltPt y x
theorem lePt_trans (a b c : Pt) (h1 : (!ltPt b a) = true) (h2 : (!ltPt c b) = true) : (!ltPt c a) = true := by
  simp only [Bool.not_eq_true', ltPt_false] at *; omega
theorem lePt_total (a b : Pt) : ((!ltPt b a) || (!ltPt a b)) = true := by
  simp only [Bool.or_eq_true, Bool.not_eq_true', ltPt_false]; omega
theorem sortPts_sorted (l : List Pt) : (sortPts l).Pairwise fun x y => (!ltPt y x) = true := List.pairwise_mergeSort lePt_trans lePt_total l
theorem sortPts_perm (l : List Pt) : (sortPts l).Perm l := List.mergeSort_perm l _
theorem sorted_one {l l' : List Pt} (h : l.Perm l') (h1 : l.Pairwise fun x y => (!ltPt y x) = true) (h2 : l'.Pairwise fun x y => (!ltPt y x) = true) : l = l' := by
  refine List.Perm.eq_of_pairwise (le := fun x y => (!ltPt y x) = true) (fun a b _ _ h1 h2 => ?_) h1 h2 h
  simp only [Bool.not_eq_true'] at h1 h2
  exact ltPt_total a b h2 h1
theorem sortPts_of_perm {l l' : List Pt} (h : l.Perm l') : sortPts l = sortPts l' :=
  sorted_one (((sortPts_perm l).trans h).trans (sortPts_perm l').symm) (sortPts_sorted l) (sortPts_sorted l')
end Go.Proofs.YtmoohekgheoliaaGreatDoor
namespace Go.Proofs.YtmoohekgheoliaaGreatDoor
set_option maxRecDepth 100000
open Go.Sx
def keysND (l : List (Pt × Coin)) : Prop := (l.map (·.1)).Nodup
theorem mdel_filter : ∀ {l : List (Pt × Coin)} {k : Pt}, keysND l → mdel l k = l.filter (fun x => x.1 ≠ k)
  | [], k, _ => rfl
  | x :: r, k, h => by
    simp only [keysND, List.map_cons, List.nodup_cons] at h
    simp only [mdel]
    by_cases hk : x.1 = k
    · have hr : r.filter (fun x => x.1 ≠ k) = r := by
        rw [List.filter_eq_self]
        intro y hy
        have : y.1 ≠ k := fun e => h.1 (by rw [hk, ← e]; exact List.mem_map.2 ⟨y, hy, rfl⟩)
        simpa using this
      rw [if_pos hk, List.filter_cons_of_neg (by simpa using hk), hr]
    · rw [if_neg hk, List.filter_cons_of_pos (by simpa using hk), mdel_filter h.2]
theorem mput_perm : ∀ {l : List (Pt × Coin)} {k : Pt} {v : Coin}, keysND l → (mput l k v).Perm ((k, v) :: l.filter (fun x => x.1 ≠ k))
  | [], k, v, _ => List.Perm.refl _
  | x :: r, k, v, h => by
    simp only [keysND, List.map_cons, List.nodup_cons] at h
    simp only [mput]
    by_cases hk : x.1 = k
    · have hr : r.filter (fun x => x.1 ≠ k) = r := by
        rw [List.filter_eq_self]
        intro y hy
        have : y.1 ≠ k := fun e => h.1 (by rw [hk, ← e]; exact List.mem_map.2 ⟨y, hy, rfl⟩)
        simpa using this
      rw [if_pos hk, List.filter_cons_of_neg (by simpa using hk), hr]
    · rw [if_neg hk, List.filter_cons_of_pos (by simpa using hk)]
      exact ((mput_perm h.2).cons x).trans (List.Perm.swap _ _ _)
theorem nd_filter {l : List (Pt × Coin)} {k : Pt} (h : keysND l) : keysND (l.filter (fun x => x.1 ≠ k)) := by
  have := (List.filter_sublist (p := fun x : Pt × Coin => decide (x.1 ≠ k)) (l := l)).map (·.1)
  exact h.sublist this
theorem nd_mdel {l : List (Pt × Coin)} {k : Pt} (h : keysND l) : keysND (mdel l k) := by
  rw [mdel_filter h]; exact nd_filter h
theorem nd_mput {l : List (Pt × Coin)} {k : Pt} {v : Coin} (h : keysND l) : keysND (mput l k v) := by
  have hp := (mput_perm (k := k) (v := v) h).map (·.1)
  unfold keysND
  rw [hp.nodup_iff, List.map_cons, List.nodup_cons]
  refine ⟨fun hm => ?_, nd_filter h⟩
  obtain ⟨y, hy, he⟩ := List.mem_map.1 hm
  have := (List.mem_filter.1 hy).2
  simp [he] at this
theorem mget_key : ∀ {l : List (Pt × Coin)} {k : Pt}, (mget l k).isSome = false → ∀ x ∈ l, x.1 ≠ k
  | [], k, _, x, hx => by cases hx
  | y :: r, k, h, x, hx => by
    simp only [mget] at h
    by_cases hk : y.1 = k
    · rw [if_pos hk] at h; cases h
    · rw [if_neg hk] at h
      rcases List.mem_cons.1 hx with rfl | hx
      · exact hk
      · exact mget_key h x hx
theorem mget_mem : ∀ {l : List (Pt × Coin)} {k : Pt} {v : Coin}, mget l k = some v → (k, v) ∈ l
  | [], k, v, h => by cases h
  | y :: r, k, v, h => by
    simp only [mget] at h
    by_cases hk : y.1 = k
    · rw [if_pos hk] at h; cases h; rw [← hk]; simp
    · rw [if_neg hk] at h; exact List.mem_cons_of_mem _ (mget_mem h)
theorem wrap_add (a b : Int) : IntKind.i64.wrap (IntKind.i64.wrap a + b) = IntKind.i64.wrap (a + b) := by
  have e1 : IntKind.i64.bits = 64 := rfl
  have e2 : IntKind.i64.signed = true := rfl
  simp only [IntKind.wrap, e1, e2, Bool.true_and]
  split <;> split <;> split <;> rename_i h h' h'' <;> simp only [ge_iff_le, decide_eq_true_eq] at h h' h'' <;> omega
theorem wrap_sub (a b : Int) : IntKind.i64.wrap (IntKind.i64.wrap a - b) = IntKind.i64.wrap (a - b) := by
  have := wrap_add a (-b)
  simpa [Int.sub_eq_add_neg] using this
def sumC : List (Pt × Coin) → Int
  | [] => 0
  | x :: r => x.2.amt.toInt + sumC r
theorem sumC_perm {l l' : List (Pt × Coin)} (h : l.Perm l') : sumC l = sumC l' := by
  induction h with
  | nil => rfl
  | cons x _ ih => simp only [sumC, ih]
  | swap x y l => simp only [sumC]; omega
  | trans _ _ h1 h2 => rw [h1, h2]
theorem mdel_perm : ∀ {l : List (Pt × Coin)} {k : Pt} {v : Coin}, mget l k = some v → ((k, v) :: mdel l k).Perm l
  | [], _, _, h => by cases h
  | x :: r, k, v, h => by
    simp only [mget] at h
    simp only [mdel]
    by_cases hk : x.1 = k
    · rw [if_pos hk] at h ⊢
      cases h
      obtain ⟨a, b⟩ := x
      subst hk
      exact List.Perm.refl _
    · rw [if_neg hk] at h ⊢
      exact (List.Perm.swap _ _ _).trans ((mdel_perm h).cons x)
theorem mget_of_mem : ∀ {l : List (Pt × Coin)} {k : Pt} {v : Coin}, keysND l → (k, v) ∈ l → mget l k = some v
  | x :: r, k, v, hn, h => by
    simp only [keysND, List.map_cons, List.nodup_cons] at hn
    simp only [mget]
    rcases List.mem_cons.1 h with rfl | h
    · simp
    · have : x.1 ≠ k := fun e => hn.1 (e ▸ List.mem_map.2 ⟨_, h, rfl⟩)
      rw [if_neg this]
      exact mget_of_mem hn.2 h
structure Inv (S : USet) : Prop where
  nd : keysND S.coins
  tot : S.total = IntKind.i64.wrap (sumC S.coins)
theorem Inv.empty : Inv USet.empty := ⟨List.nodup_nil, rfl⟩
theorem okB_has {S : USet} {p : Pt} {c : Coin} (h : S.okB p c = true) : S.has p = false := by
  simp only [USet.okB, Bool.and_eq_true, Bool.not_eq_true'] at h
  exact h.1.2
theorem Inv.add {S : USet} (h : Inv S) (p : Pt) (c : Coin) : Inv (S.add p c) := by
  unfold USet.add
  split
  · rename_i hok
    have hh := mget_key (okB_has hok)
    refine ⟨nd_mput h.nd, ?_⟩
    simp only [USet.add1, USet.put, h.tot, wrap_add]
    congr 1
    have hf : S.coins.filter (fun x => x.1 ≠ p) = S.coins := by
      rw [List.filter_eq_self]
      intro y hy
      simpa using hh y hy
    have := sumC_perm (mput_perm (k := p) (v := c) h.nd)
    rw [hf] at this
    rw [this]
    simp only [sumC]
    omega
  · exact h
theorem has_get {S : USet} {p : Pt} (h : S.has p = true) : mget S.coins p = some (S.get p) := by
  unfold USet.has at h
  unfold USet.get
  cases hm : mget S.coins p with
  | none => rw [hm] at h; cases h
  | some v => rfl
theorem spend_coins {S : USet} {p : Pt} (h : S.has p = true) : (S.spend p).coins = mdel S.coins p ∧ (S.spend p).total = IntKind.i64.wrap (S.total - (S.get p).amt.toInt) := by
  unfold USet.spend
  rw [if_pos h]
  exact ⟨rfl, rfl⟩
theorem sum_spend {S : USet} {p : Pt} (h : S.has p = true) : sumC (S.spend p).coins = sumC S.coins - (S.get p).amt.toInt ∧ (S.spend p).coins.length + 1 = S.coins.length := by
  have hp := mdel_perm (has_get h)
  rw [(spend_coins h).1]
  have h1 := sumC_perm hp
  have h2 := hp.length_eq
  simp only [sumC, List.length_cons] at h1 h2
  omega
theorem Inv.spend {S : USet} (h : Inv S) (p : Pt) : Inv (S.spend p) := by
  by_cases hh : S.has p = true
  · refine ⟨by rw [(spend_coins hh).1]; exact nd_mdel h.nd, ?_⟩
    rw [(spend_coins hh).2, (sum_spend hh).1, h.tot, wrap_sub]
  · unfold USet.spend
    rw [if_neg hh]
    exact h
section
variable {S : USet} {R : RC} {zs : List (Pt × Coin)}
structure TwinZ (S : USet) (R : RC) (zs : List (Pt × Coin)) : Prop where
  P : R.P = zs.map (·.1)
  C : R.C = zs.map (·.2)
  perm : zs.Perm S.coins
  srt : zs.Pairwise fun a b => ltPt a.1 b.1 = true
  inv : Inv S
  amt : ∀ x ∈ zs, 1 ≤ x.2.amt.toInt
  most : sumC zs ≤ 1125899906842624
def Twin (S : USet) (R : RC) : Prop := ∃ zs, TwinZ S R zs
theorem sumC_append (a b : List (Pt × Coin)) : sumC (a ++ b) = sumC a + sumC b := by
  induction a with
  | nil => simp [sumC]
  | cons x r ih => simp only [List.cons_append, sumC, ih]; omega
theorem sumC_pos {l : List (Pt × Coin)} (h : ∀ x ∈ l, 1 ≤ x.2.amt.toInt) : 0 ≤ sumC l := by
  induction l with
  | nil => simp [sumC]
  | cons x r ih =>
    have := h x (by simp)
    have := ih (fun y hy => h y (by simp [hy]))
    simp only [sumC]; omega
theorem ltPt_trans {a b c : Pt} (h1 : ltPt a b = true) (h2 : ltPt b c = true) : ltPt a c = true := ltPt_swo.trans a b c h1 h2
theorem ltPt_irr (a : Pt) : ltPt a a = false := ltPt_swo.irrefl a
theorem ltPt_asymm {a b : Pt} (h : ltPt a b = true) : ltPt b a = false := by
  cases h2 : ltPt b a with
  | false => rfl
  | true => have := ltPt_trans h h2; rw [ltPt_irr] at this; cases this
theorem posIn_split {p : Pt} : ∀ {zs : List (Pt × Coin)}, zs.Pairwise (fun a b => ltPt a.1 b.1 = true) → posIn p (zs.map (·.1)) ≤ zs.length ∧ (∀ x ∈ zs.take (posIn p (zs.map (·.1))), ltPt x.1 p = true) ∧ (∀ x ∈ zs.drop (posIn p (zs.map (·.1))), ltPt x.1 p = false)
  | [], _ => by simp [posIn]
  | z :: r, h => by
    rw [List.pairwise_cons] at h
    obtain ⟨h1, h2, h3⟩ := posIn_split (p := p) h.2
    simp only [List.map_cons, posIn]
    by_cases hz : ltPt z.1 p = true
    · rw [if_pos hz]
      refine ⟨by simp; omega, fun x hx => ?_, fun x hx => ?_⟩
      · rw [List.take_succ_cons] at hx
        rcases List.mem_cons.1 hx with rfl | hx
        · exact hz
        · exact h2 x hx
      · rw [List.drop_succ_cons] at hx
        exact h3 x hx
    · rw [if_neg hz]
      have hz' : ltPt z.1 p = false := by simpa using hz
      refine ⟨by simp, fun x hx => by simp at hx, fun x hx => ?_⟩
      rw [List.drop_zero] at hx
      rcases List.mem_cons.1 hx with rfl | hx
      · exact hz'
      · cases hy : ltPt x.1 p with
        | false => rfl
        | true => have := ltPt_trans (h.1 x hx) hy; rw [hz'] at this; cases this
theorem TwinZ.len (h : TwinZ S R zs) : R.P.length = zs.length ∧ R.C.length = zs.length := by rw [h.P, h.C]; simp
theorem TwinZ.nd (h : TwinZ S R zs) : keysND zs := by
  have := h.perm.map (fun x : Pt × Coin => x.1)
  exact this.nodup_iff.2 h.inv.nd
theorem TwinZ.at (h : TwinZ S R zs) {i : Nat} (hi : i < zs.length) : R.P.getD i default = (zs[i]).1 ∧ R.C.getD i default = (zs[i]).2 ∧ mget S.coins (zs[i]).1 = some (zs[i]).2 := by
  refine ⟨?_, ?_, mget_of_mem h.inv.nd (h.perm.mem_iff.1 (List.getElem_mem hi))⟩
  · rw [h.P]; simp [List.getD_eq_getElem?_getD, hi]
  · rw [h.C]; simp [List.getD_eq_getElem?_getD, hi]
theorem TwinZ.total (h : TwinZ S R zs) : S.total = sumC zs ∧ 0 ≤ sumC zs := by
  have h0 := sumC_pos h.amt
  have := h.most
  refine ⟨?_, h0⟩
  rw [h.inv.tot, ← sumC_perm h.perm]
  exact wrap_i64 (by omega) (by omega)
theorem TwinZ.sumN (h : TwinZ S R zs) : ∀ i, i ≤ zs.length → R.sumN i = IntKind.i64.wrap (sumC (zs.take i))
  | 0, _ => by simp [RC.sumN, sumC]; rfl
  | i + 1, hi => by
    have hil : i < zs.length := by omega
    rw [RC.sumN, h.sumN i (by omega), wrap_add, (h.at hil).2.1, List.take_succ_eq_append_getElem hil, sumC_append]
    simp [sumC]
theorem TwinZ.sum (h : TwinZ S R zs) : R.sumN R.C.length = S.total := by
  rw [h.len.2, h.sumN _ (Nat.le_refl _), List.take_length, h.inv.tot, sumC_perm h.perm]
theorem mget_some_iff : ∀ {l : List (Pt × Coin)} {k : Pt}, (mget l k).isSome = true ↔ k ∈ l.map (·.1)
  | [], _ => by simp [mget]
  | x :: r, k => by
    rw [mget]
    by_cases e : x.1 = k
    · rw [if_pos e]; simp [e]
    · rw [if_neg e, mget_some_iff, List.map_cons, List.mem_cons]
      exact ⟨Or.inr, fun h => h.resolve_left fun h => e h.symm⟩
theorem TwinZ.has_iff (h : TwinZ S R zs) (p : Pt) : S.has p = true ↔ p ∈ zs.map (·.1) := by
  rw [USet.has, mget_some_iff]
  exact (h.perm.map (·.1)).mem_iff.symm
theorem TwinZ.pos (h : TwinZ S R zs) (p : Pt) : R.pos p = posIn p (zs.map (·.1)) := by rw [RC.pos, h.P]
theorem TwinZ.isAt_iff (h : TwinZ S R zs) (p : Pt) : R.isAt p = true ↔ p ∈ zs.map (·.1) := by
  obtain ⟨h1, h2, h3⟩ := posIn_split (p := p) h.srt
  have hp := h.pos p
  unfold RC.isAt
  simp only [Bool.and_eq_true, decide_eq_true_eq, hp, h.len.1]
  constructor
  · rintro ⟨hl, he⟩
    rw [(h.at hl).1] at he
    exact List.mem_map.2 ⟨_, List.getElem_mem hl, he⟩
  · intro hm
    obtain ⟨x, hx, rfl⟩ := List.mem_map.1 hm
    have hx' : x ∈ zs.drop (posIn x.1 (zs.map (·.1))) := by
      rw [← List.take_append_drop (posIn x.1 (zs.map (·.1))) zs] at hx
      rcases List.mem_append.1 hx with hx | hx
      · have := h2 x hx; rw [ltPt_irr] at this; cases this
      · exact hx
    have hl : posIn x.1 (zs.map (·.1)) < zs.length := by
      have := List.length_pos_of_mem hx'
      rw [List.length_drop] at this; omega
    refine ⟨hl, ?_⟩
    rw [(h.at hl).1]
    have hd := List.drop_eq_getElem_cons hl
    rw [hd] at hx'
    rcases List.mem_cons.1 hx' with e | hx'
    · rw [← e]
    · have hs := h.srt.drop (i := posIn x.1 (zs.map (·.1)))
      rw [hd, List.pairwise_cons] at hs
      have h4 := hs.1 x hx'
      have h5 := h3 _ (by rw [hd]; exact List.mem_cons_self ..)
      rw [h5] at h4; cases h4
theorem TwinZ.isAt (h : TwinZ S R zs) (p : Pt) : R.isAt p = S.has p := by
  rw [Bool.eq_iff_iff, h.isAt_iff, h.has_iff]
theorem TwinZ.okB (h : TwinZ S R zs) (p : Pt) (c : Coin) : R.okB p c = S.okB p c := by
  have ht := h.total
  have hm := h.most
  rw [Bool.eq_iff_iff]
  simp only [RC.okB, USet.okB, h.isAt, h.sum, bothB, mayB, Bool.and_eq_true, Bool.not_eq_true', decide_eq_false_iff_not, decide_eq_true_eq, ht.1]
  have hc := c.amt.toInt_lt
  by_cases ha : 1 ≤ c.amt.toInt ∧ c.amt.toInt ≤ 1125899906842624
  · rw [wrap_i64 (n := 1125899906842624 - c.amt.toInt) (by omega) (by omega), wrap_i64 (n := sumC zs + c.amt.toInt) (by omega) (by omega)]
    constructor
    · rintro ⟨⟨⟨⟨⟨a1, a2⟩, a3⟩, a4⟩, a5⟩, a6⟩; exact ⟨⟨⟨⟨by omega, by omega⟩, by omega⟩, a1⟩, ⟨⟨⟨by omega, by omega⟩, ⟨by omega, by omega⟩⟩, ⟨by omega, by omega⟩⟩⟩
    · rintro ⟨⟨⟨⟨a1, a2⟩, a3⟩, a4⟩, ⟨⟨⟨a5, a6⟩, ⟨a7, a8⟩⟩, ⟨a9, a10⟩⟩⟩; exact ⟨⟨⟨⟨⟨a4, by omega⟩, by omega⟩, by omega⟩, by omega⟩, by omega⟩
  · constructor
    · rintro ⟨⟨⟨⟨⟨a1, a2⟩, a3⟩, a4⟩, a5⟩, a6⟩; omega
    · rintro ⟨⟨⟨⟨a1, a2⟩, a3⟩, a4⟩, ⟨⟨⟨a5, a6⟩, ⟨a7, a8⟩⟩, ⟨a9, a10⟩⟩⟩; omega
theorem TwinZ.get (h : TwinZ S R zs) (p : Pt) : R.get p = S.get p := by
  unfold RC.get
  by_cases hp : R.isAt p = true
  · rw [if_pos hp]
    have hp' := hp
    simp only [RC.isAt, Bool.and_eq_true, decide_eq_true_eq] at hp'
    have hl : R.pos p < zs.length := by rw [← h.len.1]; exact hp'.1
    have ha := h.at hl
    rw [hp'.2] at ha
    have h2 := ha.2.2
    rw [← ha.1] at h2
    unfold USet.get
    rw [h2, ha.2.1]
    rfl
  · rw [if_neg hp]
    rw [h.isAt] at hp
    unfold USet.has at hp
    unfold USet.get
    cases hm : mget S.coins p with
    | none => rfl
    | some v => rw [hm] at hp; exact absurd rfl hp
theorem TwinZ.add1 (h : TwinZ S R zs) {p : Pt} {c : Coin} (hok : S.okB p c = true) : Twin (S.add1 p c) (R.add1 p c) := by
  obtain ⟨h1, h2, h3⟩ := posIn_split (p := p) h.srt
  have hhas := okB_has hok
  have hnot : p ∉ zs.map (·.1) := fun hm => by rw [(h.has_iff p).2 hm] at hhas; cases hhas
  have hokR := hok
  rw [← h.okB] at hokR
  simp only [RC.okB, h.sum, Bool.and_eq_true, Bool.not_eq_true', decide_eq_false_iff_not, h.total.1] at hokR
  obtain ⟨⟨⟨⟨⟨_, _⟩, _⟩, a4⟩, a5⟩, a6⟩ := hokR
  have h0 := h.total.2
  have hm := h.most
  rw [wrap_i64 (by omega) (by omega)] at a6
  have hzp : (zs.take (R.pos p) ++ (p, c) :: zs.drop (R.pos p)).Perm ((p, c) :: zs) := by
    refine List.perm_middle.trans ?_
    rw [List.take_append_drop]
  have hinv : Inv (S.add1 p c) := by
    have := h.inv.add p c
    unfold USet.add at this
    rwa [if_pos hok] at this
  refine ⟨zs.take (R.pos p) ++ (p, c) :: zs.drop (R.pos p), ?_, ?_, ?_, ?_, hinv, ?_, ?_⟩
  · simp only [RC.add1, h.P, List.map_append, List.map_cons, List.map_take, List.map_drop]
  · simp only [RC.add1, h.C, List.map_append, List.map_cons, List.map_take, List.map_drop]
  · have hc : (S.add1 p c).coins = S.coins ++ [(p, c)] := by
      simp only [USet.add1, USet.put]
      exact mput_none (mget_key hhas)
    rw [hc]
    exact (hzp.trans (h.perm.cons _)).trans (List.perm_append_singleton _ _).symm
  · rw [h.pos]
    have hsplit := h.srt
    rw [← List.take_append_drop (posIn p (zs.map (·.1))) zs, List.pairwise_append] at hsplit
    obtain ⟨s1, s2, s3⟩ := hsplit
    rw [List.pairwise_append]
    refine ⟨s1, ?_, fun x hx y hy => ?_⟩
    · rw [List.pairwise_cons]
      refine ⟨fun y hy => ?_, s2⟩
      have hy1 := h3 y hy
      have hne : y.1 ≠ p := fun e => hnot (List.mem_map.2 ⟨y, List.mem_of_mem_drop hy, e⟩)
      show ltPt p y.1 = true
      cases hl : ltPt p y.1 with
      | true => rfl
      | false => exact absurd (ltPt_total _ _ hl hy1).symm hne
    · rcases List.mem_cons.1 hy with rfl | hy
      · exact h2 x hx
      · exact s3 x hx y hy
  · intro x hx
    rcases List.mem_cons.1 (hzp.mem_iff.1 hx) with rfl | hx
    · show 1 ≤ c.amt.toInt; omega
    · exact h.amt x hx
  · rw [sumC_perm hzp]
    simp only [sumC]
    omega
theorem TwinZ.spend1 (h : TwinZ S R zs) {p : Pt} (hok : S.has p = true) : Twin (S.spend1 p) (R.spend1 p) := by
  have hat : R.isAt p = true := by rw [h.isAt]; exact hok
  simp only [RC.isAt, Bool.and_eq_true, decide_eq_true_eq] at hat
  have hl : R.pos p < zs.length := by rw [← h.len.1]; exact hat.1
  have ha := h.at hl
  rw [hat.2] at ha
  have hsplit : zs = zs.take (R.pos p) ++ zs[R.pos p] :: zs.drop (R.pos p + 1) := by
    rw [← List.drop_eq_getElem_cons hl, List.take_append_drop]
  have hsub : (zs.take (R.pos p) ++ zs.drop (R.pos p + 1)).Sublist zs := by
    conv => rhs; rw [hsplit]
    exact (List.Sublist.refl _).append (List.sublist_cons_self _ _)
  have hinv : Inv (S.spend1 p) := by
    have := h.inv.spend p
    unfold USet.spend at this
    rwa [if_pos hok] at this
  have hpm : (zs[R.pos p] :: (zs.take (R.pos p) ++ zs.drop (R.pos p + 1))).Perm zs := by
    conv => rhs; rw [hsplit]
    exact List.perm_middle.symm
  have hv : zs[R.pos p] = (p, S.get p) := by
    have h1 := ha.1
    have h2 := ha.2.2
    rw [← h1] at h2
    have : S.get p = (zs[R.pos p]).2 := by unfold USet.get; rw [h2]; rfl
    exact Prod.ext h1.symm this.symm
  have hsum := sumC_perm hpm
  refine ⟨zs.take (R.pos p) ++ zs.drop (R.pos p + 1), ?_, ?_, ?_, h.srt.sublist hsub, hinv, fun x hx => h.amt x (hsub.mem hx), ?_⟩
  · simp only [RC.spend1, h.P, List.map_append, List.map_take, List.map_drop]
  · simp only [RC.spend1, h.C, List.map_append, List.map_take, List.map_drop]
  · have hd := mdel_perm (has_get hok)
    have hc : (S.spend1 p).coins = mdel S.coins p := rfl
    rw [hc]
    rw [hv] at hpm
    exact List.Perm.cons_inv ((hpm.trans h.perm).trans hd.symm)
  · have hm := h.most
    have := h.amt _ (List.getElem_mem hl)
    simp only [sumC] at hsum
    omega
theorem Twin.empty : Twin USet.empty RC.empty := ⟨[], rfl, rfl, List.Perm.refl _, List.Pairwise.nil, Inv.empty, fun _ h => (by cases h), by decide⟩
theorem Twin.add {S : USet} {R : RC} (h : Twin S R) (p : Pt) (c : Coin) : Twin (S.add p c) (R.add p c) := by
  obtain ⟨zs, h⟩ := h
  unfold USet.add RC.add
  rw [h.okB]
  split
  · rename_i hok; exact h.add1 hok
  · exact ⟨zs, h⟩
theorem Twin.spend {S : USet} {R : RC} (h : Twin S R) (p : Pt) : Twin (S.spend p) (R.spend p) := by
  obtain ⟨zs, h⟩ := h
  unfold USet.spend RC.spend
  rw [h.isAt]
  split
  · rename_i hok; exact h.spend1 hok
  · exact ⟨zs, h⟩
end
end Go.Proofs.YtmoohekgheoliaaGreatDoor
namespace Go.Proofs.YtmoohekgheoliaaGreatDoor
set_option maxRecDepth 100000
open Go.Sx
def and7 (n : Int) : Int := bitI .and .i64 n 7
def seedU (n : Int) : H8 := ⟨117, byteI (IntKind.u8.wrap (and7 n)), 0, 0, 0, 0, 0, 0⟩
theorem seedU_x (n : Int) : (seedU n).x = .agg [.raw (.int .u8 117), .raw (.int .u8 (IntKind.u8.wrap (bitI .and .i64 n 7))), .raw (.int .u8 0), .raw (.int .u8 0), .raw (.int .u8 0), .raw (.int .u8 0), .raw (.int .u8 0), .raw (.int .u8 0)] := by
  show CV.agg [.raw (.int .u8 117), .raw (u8 (byteI (IntKind.u8.wrap (and7 n)))), .raw (.int .u8 0), .raw (.int .u8 0), .raw (.int .u8 0), .raw (.int .u8 0), .raw (.int .u8 0), .raw (.int .u8 0)] = _
  rw [u8_byteI]; rfl
theorem lend_plainE {M : Mem} {rd : List Nat} {c c' : CV} (e : c' = c) (hc : c.ok (fun _ => false) = true) : Lends M rd c (.plain c') := by
  subst e; exact lend_plain hc
def ownerH (n : Int) : H8 := treeH (seedU n)
theorem owner_can (n : Int) : Reads Tryz.prog 25 [.plain (.one (.raw (.int .i64 n)))] [] (hashX (ownerH n)) := by
  refine Reads.of Tryz.T_ok Tryz.func25 rfl _ _ _ rfl rfl (fun C hC => ?_)
  (replace hC : C.n0 = 1 := hC; change Tri _ _ _ ⟨_, _, 1⟩ _)
  refine Tri.of Tryz.mixed Tryz.T_ok ?_
  (refine wBegin ?_; ((conv => arg 5; whnf); repeat (refine xS ?_; conv => arg 5; whnf)))
  (apply wP; exact (call_op rfl (entersB_of Tryz.func48 (by kernel_rfl)) rfl ((tree_can (seedU n)).at [] ⟨lend_plainE (seedU_x n) rfl, trivial⟩ trivial)); ((conv => arg 5; whnf); repeat (refine xS ?_; conv => arg 5; whnf)))
  exact wD (Ends.plain (.inr rfl) rfl rfl)
theorem wrap_bounds (n : Int) : -2 ^ 63 ≤ IntKind.i64.wrap n ∧ IntKind.i64.wrap n < 2 ^ 63 := by
  rw [IntKind.wrap_i64]; omega
def ptOf (n : Int) : Pt := ⟨⟨116, byteI (IntKind.u8.wrap (shrI .i64 n 8)), 0, 0, 0, 0, 0, 0⟩, Int64.ofInt (bitI .and .i64 n 255)⟩
theorem ptOf_x (n : Int) : (ptOf n).cv = .agg [.raw (.int .u8 116), .raw (.int .u8 (IntKind.u8.wrap (shrI .i64 n 8))), .raw (.int .u8 0), .raw (.int .u8 0), .raw (.int .u8 0), .raw (.int .u8 0), .raw (.int .u8 0), .raw (.int .u8 0), .raw (.int .i64 (bitI .and .i64 n 255))] := by
  show CV.agg [.raw (.int .u8 116), .raw (u8 (byteI (IntKind.u8.wrap (shrI .i64 n 8)))), .raw (.int .u8 0), .raw (.int .u8 0), .raw (.int .u8 0), .raw (.int .u8 0), .raw (.int .u8 0), .raw (.int .u8 0), .raw (.int .i64 (Int64.ofInt (bitI .and .i64 n 255)).toInt)] = _
  have hb : -2 ^ 63 ≤ bitI .and .i64 n 255 ∧ bitI .and .i64 n 255 < 2 ^ 63 := wrap_bounds _
  rw [u8_byteI, Int64.toInt_ofInt_of_le hb.1 hb.2]
theorem point_can (n : Int) : Reads Tryz.prog 24 [.plain (.one (.raw (.int .i64 n)))] [] (.cv (ptOf n).cv) := by
  refine Reads.of Tryz.T_ok Tryz.func24 rfl _ _ _ rfl rfl (fun C hC => ?_)
  (replace hC : C.n0 = 1 := hC; change Tri _ _ _ ⟨_, _, 1⟩ _)
  refine Tri.of Tryz.mixed Tryz.T_ok ?_
  (refine wBegin ?_; ((conv => arg 5; whnf); repeat (refine xS ?_; conv => arg 5; whnf)))
  exact wD (Ends.plain (.inr rfl) rfl (congrArg XV.cv (ptOf_x n).symm))
structure LCoin where
  who : Int64
  amt : Int64
  height : Int64
  base : Bool
  deriving DecidableEq, Inhabited
def LCoin.cells (c : LCoin) : List Value := [i64 c.who, i64 c.amt, i64 c.height, .bool c.base]
def coinsF (l : List LCoin) := rowOf LCoin.cells l
structure PlanM where
  ins : List UInt8
  outs : List LCoin
  fwds : List FwdM
  bend : UInt8
def PlanM.ac (p : PlanM) : List AC := [.row 1 p.ins.length (rowB p.ins), .row 4 p.outs.length (coinsF p.outs), .row 11 p.fwds.length (fwdsF p.fwds), .raw (u8 p.bend)]
def fewB (p : PlanM) (n : Nat) : Bool := decide (p.ins.length ≤ 10) && decide (p.outs.length ≤ 30) && decide (p.fwds.length ≤ 30) && decide (n ≤ 60)
theorem dec_nat {a b : Nat} : decide ((a : Int) ≤ (b : Int)) = decide (a ≤ b) := by rw [Bool.eq_iff_iff, decide_eq_true_eq, decide_eq_true_eq]; omega
theorem few_can (p : PlanM) (l : List LCoin) (h1 : p.ins.length ≤ maxLen) (h2 : p.outs.length ≤ maxLen) (h3 : p.fwds.length ≤ maxLen) (h4 : l.length ≤ maxLen) : Reads Tryz.prog 10 [.box p.ac, .row 4 l.length (coinsF l)] [] (XV.bool (fewB p l.length)) := by
  have e1 := dec_nat (a := p.ins.length) (b := 10)
  have e2 := dec_nat (a := p.outs.length) (b := 30)
  have e3 := dec_nat (a := p.fwds.length) (b := 30)
  have e4 := dec_nat (a := l.length) (b := 60)
  refine Reads.of Tryz.T_ok Tryz.func10 rfl _ _ _ rfl rfl (fun C hC => ?_)
  (replace hC : C.n0 = 4 := hC; change Tri _ _ _ ⟨_, _, 4⟩ _)
  refine Tri.of Tryz.mixed Tryz.T_ok ?_
  (refine wBegin ?_; ((conv => arg 5; whnf); repeat (refine xS ?_; conv => arg 5; whnf)))
  refine wC (fun h1 => ?_) (fun h1 => ?_)
  · (refine wGo ?_; ((conv => arg 5; whnf); repeat (refine xS ?_; conv => arg 5; whnf)))
    refine wC (fun h2 => ?_) (fun h2 => ?_)
    · (refine wGo ?_; ((conv => arg 5; whnf); repeat (refine xS ?_; conv => arg 5; whnf)))
      refine wC (fun h3 => ?_) (fun h3 => ?_)
      · (refine wGo ?_; ((conv => arg 5; whnf); repeat (refine xS ?_; conv => arg 5; whnf)))
        exact wD (Ends.plain (.inr rfl) rfl (by rw [fewB, ← e1, ← e2, ← e3, ← e4]; exact congrArg (fun b : Bool => XV.bool b) (by rw [show decide ((p.ins.length : Int) ≤ ((10 : Nat) : Int)) = true from h1, show decide ((p.outs.length : Int) ≤ ((30 : Nat) : Int)) = true from h2, show decide ((p.fwds.length : Int) ≤ ((30 : Nat) : Int)) = true from h3]; rfl)))
      · (refine wGo ?_; ((conv => arg 5; whnf); repeat (refine xS ?_; conv => arg 5; whnf)))
        exact wD (Ends.plain (.inr rfl) rfl (by rw [fewB, ← e1, ← e2, ← e3, ← e4]; exact congrArg (fun b : Bool => XV.bool b) (by rw [show decide ((p.ins.length : Int) ≤ ((10 : Nat) : Int)) = true from h1, show decide ((p.outs.length : Int) ≤ ((30 : Nat) : Int)) = true from h2, show decide ((p.fwds.length : Int) ≤ ((30 : Nat) : Int)) = false from h3]; rfl)))
    · (refine wGo ?_; ((conv => arg 5; whnf); repeat (refine xS ?_; conv => arg 5; whnf)))
      exact wD (Ends.plain (.inr rfl) rfl (by rw [fewB, ← e1, ← e2, ← e3, ← e4]; exact congrArg (fun b : Bool => XV.bool b) (by rw [show decide ((p.ins.length : Int) ≤ ((10 : Nat) : Int)) = true from h1, show decide ((p.outs.length : Int) ≤ ((30 : Nat) : Int)) = false from h2]; rfl)))
  · (refine wGo ?_; ((conv => arg 5; whnf); repeat (refine xS ?_; conv => arg 5; whnf)))
    exact wD (Ends.plain (.inr rfl) rfl (by rw [fewB, ← e1, ← e2, ← e3, ← e4]; exact congrArg (fun b : Bool => XV.bool b) (by rw [show decide ((p.ins.length : Int) ≤ ((10 : Nat) : Int)) = false from h1]; rfl)))
end Go.Proofs.YtmoohekgheoliaaGreatDoor
