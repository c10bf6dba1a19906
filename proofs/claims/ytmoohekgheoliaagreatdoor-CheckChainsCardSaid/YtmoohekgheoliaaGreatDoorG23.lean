/- Parts Rg Pb Pc Px. -/
import Derived.Test.YtmoohekgheoliaaGreatDoorG22
import Derived.Test.YtmoohekgheoliaaGreatDoorG21
import Derived.Test.YtmoohekgheoliaaGreatDoorG14
import Derived.Sort.Statements
set_option linter.unusedSimpArgs false
set_option linter.unusedVariables false
namespace Go.Proofs.YtmoohekgheoliaaGreatDoor
set_option maxRecDepth 100000
open Go.Sx
theorem rmessage_bad (t : TxM) (i : Int) (hk : t.kind = 2) (hs : Sized t) (hc : t.claim.Wf) (hm : mayPay t hc = false) : Reads Tryz.prog 26 [.box t.ac, .plain (.one (.raw (.int .i64 i)))] [] (.tup [zeroH.x, .one (.raw (.bool false))]) := by
  have hmay := rmay_false hk hs hc hm
  obtain ⟨kind, height, ins, outs, fwds, par, cert, claim⟩ := t
  dsimp only at hk
  subst hk
  refine Reads.of Tryz.T_ok Tryz.func26 rfl _ _ _ rfl rfl (fun C hC => ?_)
  (replace hC : C.n0 = 7 := hC; change Tri _ _ _ ⟨_, _, 7⟩ _)
  refine Tri.of Tryz.mixed Tryz.T_ok ?_
  (refine wBegin ?_; ((conv => arg 5; whnf); repeat (refine xS ?_; conv => arg 5; whnf)))
  (refine wFd rfl ?_; refine wGo ?_; ((conv => arg 5; whnf); repeat (refine xS ?_; conv => arg 5; whnf)))
  (apply wP; exact (call_op rfl (entersB_of Tryz.func41 (by kernel_rfl)) rfl (hmay.at [0, 1, 2, 3, 4, 5] ⟨lend_tx (t := ⟨2, height, ins, outs, fwds, par, cert, claim⟩) (lend_ro0 rfl rfl) (lend_ro0 rfl rfl) (lend_ro0 rfl rfl) (lend_ro0 rfl rfl) (lend_ro0 rfl rfl) (lend_ro0 rfl rfl), trivial⟩ trivial)); ((conv => arg 5; whnf); repeat (refine xS ?_; conv => arg 5; whnf)))
  exact wD (Ends.plain (.inr rfl) rfl rfl)
def brF (l : List InM) : Nat → List Value := fun j => (l.getD j default).bare.cells
theorem brF_insF {l : List InM} {j : Nat} (h : j < l.length) : insF (l.map InM.bare) j = brF l j := by
  rw [insF, rowOf, getD_map_bare h]; rfl
theorem br_step {l : List InM} {k j : Nat} {g : Nat → List Value} (hg : g 0 = (l.getD k default).bare.cells) (hj : j < k + 1) : joinF (brF l) k g j = brF l j := by
  simp only [joinF, nblt]
  by_cases h : j < k
  · simp [h]
  · obtain rfl : j = k := by omega
    simp [brF, hg]
def rmsgSt (t : TxM) (i : Int) (k : Nat) : St :=
  ⟨[none, some (XV.int .i64 i), some (XV.sv (.ptr 7 0 0 0)), none, some (XV.sv (.ptr 8 0 0 0)), none, some (XV.sv (.slc 9 298 0 k)), some (XV.int .i64 k)] ++ List.replicate 58 none,
   [(0, .ro 298 t.ins.length (insF t.ins)), (1, .ro 9 t.outs.length (outsF t.outs)), (2, .ro 11 t.fwds.length (fwdsF t.fwds)), (3, .ro 8 t.par.keys.length (keysF t.par.keys)), (4, .ro 9 t.cert.outs.length (outsF t.cert.outs)), (5, .ro 282 t.cert.sigs.length (sgdsF t.cert.sigs)),
    (7, .cells 49 (boxC 0 t.ac)), (8, .cells 39 ((List.replicate 8 (u8 0)).map .raw)), (9, .vec 65 298 k (brF t.ins))], 10⟩
set_option maxHeartbeats 4000000 in
theorem rmessage_can (t : TxM) (i : Nat) (hk : t.kind = 2) (hs : Sized t) (hc : t.claim.Wf) (hm : mayPay t hc = true) (hi : i < t.ins.length) : Reads Tryz.prog 26 [.box t.ac, .plain (.one (.raw (.int .i64 i)))] [] (.tup [(msgH t i).x, .one (.raw (.bool true))]) := by
  have hmay := rmay_true hk hs hc hm
  have hm' := mayPay_msg hm
  have hl : (payEnc t.msg).length ≤ 3000 := payEnc_len (mayPay_iff.1 hm').1
  have hins : t.ins.length ≤ 8 := by
    have := (mayPay_iff.1 hm).1
    rw [payB, Bool.and_eq_true, insOK, Bool.and_eq_true, within_iff] at this
    omega
  have hen := rencode_can t.msg hk hs.msg hc hm'
  refine Reads.of Tryz.T_ok Tryz.func26 rfl _ _ _ rfl rfl (fun C hC => ?_)
  (replace hC : C.n0 = 7 := hC; change Tri _ _ _ ⟨_, _, 7⟩ _)
  (refine Tri.cut 3 Tryz.mixed Tryz.T_ok ?_; ((conv => arg 5; whnf); repeat (refine xS ?_; conv => arg 5; whnf)))
  (refine wFd ?_ ?_; (first | refine decide_eq_false ?_ | rw [beq_eq_false_iff_ne] | rw [bne_eq_false_iff_eq]); exact (by (try simp only [ww] at *); omega); refine wGo ?_; ((conv => arg 5; whnf); repeat (refine xS ?_; conv => arg 5; whnf)))
  (apply wP; exact (call_op rfl (entersB_of Tryz.func41 (by kernel_rfl)) rfl (hmay.at [0, 1, 2, 3, 4, 5] ⟨lend_tx (t := t) (lend_ro0 rfl rfl) (lend_ro0 rfl rfl) (lend_ro0 rfl rfl) (lend_ro0 rfl rfl) (lend_ro0 rfl rfl) (lend_ro0 rfl rfl), trivial⟩ trivial)); ((conv => arg 5; whnf); repeat (refine xS ?_; conv => arg 5; whnf)))
  (refine wFd ?_ ?_; (first | refine decide_eq_false ?_ | rw [beq_eq_false_iff_ne] | rw [bne_eq_false_iff_eq]); exact (by (try simp only [ww] at *); omega); refine wGo ?_; ((conv => arg 5; whnf); repeat (refine xS ?_; conv => arg 5; whnf)))
  (refine wFd ?_ ?_; (first | refine decide_eq_false ?_ | rw [beq_eq_false_iff_ne] | rw [bne_eq_false_iff_eq]); exact (by (try simp only [ww] at *); omega); refine wGo ?_; ((conv => arg 5; whnf); repeat (refine xS ?_; conv => arg 5; whnf)))
  refine wD <| cutG <| Tri.ent (Ent.nils (t := 6) rfl 65 298) <| Tri.seq ?_
  (refine Tri.cut 1 Tryz.mixed Tryz.T_ok ?_; ((conv => arg 5; whnf); repeat (refine xS ?_; conv => arg 5; whnf)))
  refine wD <| cutG <| Tri.block ?_
  refine Tri.loop (α := { k : Nat // k ≤ t.ins.length }) (fun k => rmsgSt t i k.1) (fun k => t.ins.length - k.1) ⟨0, Nat.zero_le _⟩ ?_ ?_
  · ((try dsimp only); refine Ent.renC [0, 1, 2, 3, 4, 5, 6, 7, 8, 30] hC ?_ ?_ <;> repeat' (first | exact trivial | exact rfl | exact ⟨_, rfl, rfl, rfl, Nat.le_refl _, fun _ _ => rfl⟩ | exact ⟨_, rfl, rfl, rfl, fun _ _ => rfl⟩ | exact ⟨_, rfl, rfl, rfl⟩ | exact ⟨_, rfl, rfl⟩ | refine ⟨_, rfl, rfl, rfl, by omega, fun k hk => ?_⟩ | refine ⟨?_, ?_⟩ | fail))
    exact absurd hk (Nat.not_lt_zero _)
  rintro ⟨k, hkk⟩
  dsimp only
  (refine Tri.cut 1 Tryz.mixed Tryz.T_ok ?_; ((conv => arg 5; whnf); repeat (refine xS ?_; conv => arg 5; whnf)))
  refine wC (fun h1 => ?_) (fun h1 => ?_)
  · (refine wGo ?_; ((conv => arg 5; whnf); repeat (refine xS ?_; conv => arg 5; whnf)))
    have h1' : k < t.ins.length := (by (try simp only [ww] at *); omega)
    have hw : IntKind.i64.wrap ((k : Int) + 1) = ((k + 1 : Nat) : Int) := (by (try simp only [ww] at *); omega)
    refine wD <| cutG <| Tri.seq <| Tri.block <| Tri.of Tryz.mixed Tryz.T_ok ?_
    (refine wBegin ?_; ((conv => arg 5; whnf); repeat (refine xS ?_; conv => arg 5; whnf)))
    (repeat (refine wN ?_ ?_; exact (by (try simp only [ww] at *); omega); refine wGo ?_; ((conv => arg 5; whnf); repeat (refine xS ?_; conv => arg 5; whnf))))
    simp only [Nat.zero_add, Int.toNat_natCast]
    (refine wP _ _ (append_op Tryz.T_ok rfl rfl rfl rfl rfl [9, 29] (old_vec rfl rfl (Nat.le_refl _) rfl) (new_vec (lo := 0) rfl rfl (Nat.le_refl _) rfl) rfl (lt1 rfl) (by simp only [maxLen]; omega) (by dsimp only; omega)) ?_; ((conv => arg 5; whnf); repeat (refine xS ?_; conv => arg 5; whnf)))
    refine wD <| blockN <| cutG <| Tri.of Tryz.mixed Tryz.T_ok ?_
    (refine wBegin ?_; ((conv => arg 5; whnf); repeat (refine xS ?_; conv => arg 5; whnf)))
    refine wD <| loopN ⟨⟨k + 1, h1'⟩, by dsimp only; omega, ?_⟩
    rw [hw]
    ((try dsimp only); refine Ent.renC [0, 1, 2, 3, 4, 5, 6, 7, 8, 30] hC ?_ ?_ <;> repeat' (first | exact trivial | exact rfl | exact ⟨_, rfl, rfl, rfl, Nat.le_refl _, fun _ _ => rfl⟩ | exact ⟨_, rfl, rfl, rfl, fun _ _ => rfl⟩ | exact ⟨_, rfl, rfl, rfl⟩ | exact ⟨_, rfl, rfl⟩ | refine ⟨_, rfl, rfl, rfl, by omega, fun k hk => ?_⟩ | refine ⟨?_, ?_⟩ | fail))
    exact br_step rfl hk
  · (refine wGo ?_; ((conv => arg 5; whnf); repeat (refine xS ?_; conv => arg 5; whnf)))
    have h1' : k = t.ins.length := (by (try simp only [ww] at *); omega)
    subst h1'
    refine wD <| cutE <| loopX <| blockX <| cutG <| Tri.of Tryz.mixed Tryz.T_ok ?_
    (refine wBegin ?_; ((conv => arg 5; whnf); repeat (refine xS ?_; conv => arg 5; whnf)))
    (apply wP; exact (call_op rfl (entersB_of Tryz.func34 (by kernel_rfl)) rfl (hen.at [9, 1, 2, 3, 4, 5] ⟨lend_tx (t := t.msg) (lend_vecN (lo := 0) (List.length_map _).symm rfl rfl (by simp [TxM.msg]) (fun k hk => by rw [Nat.zero_add]; exact brF_insF (by simpa [TxM.msg] using hk))) (lend_ro0 rfl rfl) (lend_ro0 rfl rfl) (lend_ro0 rfl rfl) (lend_ro0 rfl rfl) (lend_ro0 rfl rfl), trivial⟩ trivial)); ((conv => arg 5; whnf); repeat (refine xS ?_; conv => arg 5; whnf)))
    (refine wP _ _ (cellsNew_op Tryz.T_ok rfl rfl rfl) ?_; ((conv => arg 5; whnf); repeat (refine xS ?_; conv => arg 5; whnf)))
    (apply wP; exact (call_op rfl (entersB_of Tryz.func35 (by kernel_rfl)) rfl ((digest_can 105 [payEnc t.msg, [byteI (IntKind.u8.wrap (i : Int))]] (short2 _ _ _ (by simp; omega))).at [19, 28, 29] ⟨lend_plain rfl, lend_parts [payEnc t.msg, [byteI (IntKind.u8.wrap (i : Int))]] rfl rfl rfl ⟨lend_vec0 rfl rfl, lend_vec (lo := 0) rfl rfl (Nat.le_refl _) (row1 (u8_byteI _).symm), trivial⟩, trivial⟩ trivial)); ((conv => arg 5; whnf); repeat (refine xS ?_; conv => arg 5; whnf)))
    exact wD (Ends.plain (.inr rfl) rfl rfl)
end Go.Proofs.YtmoohekgheoliaaGreatDoor
namespace Go.Proofs.YtmoohekgheoliaaGreatDoor
set_option maxRecDepth 100000
open Go.Sx
theorem sumM_may : ∀ (l : List Int) (a r : Int), mayB a = true → sumM a l = some r → mayB r = true
  | [], a, r, ha, h => by rw [sumM] at h; cases h; exact ha
  | x :: l, a, r, ha, h => by
    rw [sumM] at h
    by_cases hb : bothB a x (IntKind.i64.wrap (a + x)) = true
    · rw [if_pos hb] at h
      refine sumM_may l _ r ?_ h
      rw [bothB, Bool.and_eq_true] at hb
      exact hb.2
    · rw [if_neg hb] at h; cases h
theorem bothB_sub {a b : Int} (ha : mayB a = true) (hb : mayB b = true) : bothB a b (IntKind.i64.wrap (a - b)) = !decide (a < b) := by
  rw [bothB, ha, hb, Bool.true_and, Bool.true_and]
  rw [mayB_iff] at ha hb
  rw [wrap_i64 (n := a - b) (by omega) (by omega), mayB]
  rw [Bool.eq_iff_iff]
  simp only [Bool.and_eq_true, decide_eq_true_eq, Bool.not_eq_true', decide_eq_false_iff_not]
  omega
def AlikeR (S : USet) (R : RC) : Prop := ∀ p, R.isAt p = S.has p ∧ R.get p = S.get p
theorem rcGet_alike {S : USet} {R : RC} (hSR : AlikeR S R) (hPC : R.P.length = R.C.length) (hlen : R.P.length < 1000000) (p : Pt) {M : Mem} {c0 d : Nat} (hM : M.get c0 = some (.abs (rcP R))) (hd : Nat.beq d c0 = false) : CallSpec Tryz.prog 42 [.one (.ptr c0 0 0 0), p.cv] M d { v := .tup [(S.get p).cv, .one (.raw (.bool (S.has p)))], upd := [(c0, .abs (rcP R))], wr := [c0] } [c0] := by
  rw [← (hSR p).1, ← (hSR p).2]
  exact rcGet_spec R p hPC hlen hM hd
def rpM (R : RC) (t : TxM) (n : Nat) (L : List Int) (m : Nat) (K : List Int) : Mem := (0, .abs (rcP R)) :: (txRows t ++ [(8, .cells 49 (boxC 1 t.ac)), (9, .vec 3 1 n (amtsF L)), (10, .vec 3 1 m (amtsF K))])
def rpSt (R : RC) (t : TxM) (h : Int) (n : Nat) (L : List Int) (m : Nat) (K : List Int) (s10 s16 s17 : Option XV) : St :=
  ⟨[some (XV.sv (.ptr 0 0 0 0)), none, some (XV.int .i64 h), none, some (XV.sv (.ptr 8 0 0 0)), none, none, none, some (XV.sv (.slc 9 1 0 n)), some (XV.sv (.slc 10 1 0 m)), s10, none, none, none, none, none, s16, s17] ++ List.replicate 133 none, rpM R t n L m K, 11⟩
set_option maxHeartbeats 8000000 in
theorem rpay_can (S : USet) (R : RC) (hSR : AlikeR S R) (hPC : R.P.length = R.C.length) (hlen : R.P.length < 1000000) (t : TxM) (h : Int) (hk : t.kind = 2) (hs : Sized t) (hc : t.claim.Wf) (hm : mayPay t hc = true) :
    Acts Tryz.prog 19 (.abs (rcP R)) (.abs (rcP R)) [.box t.ac, .plain (.one (.raw (.int .i64 h)))] [] (intsX (payE S t h)) := by
  have hmay := mayTx_can t hk hs hc
  rw [hm] at hmay
  have hins : t.ins.length ≤ 8 := by
    have := (mayPay_iff.1 hm).1
    rw [payB, Bool.and_eq_true, insOK, Bool.and_eq_true, within_iff] at this
    omega
  have hob := hs.outs
  have hfb := hs.fwds
  refine Acts.of Tryz.T_ok Tryz.func19 rfl _ _ _ _ _ rfl rfl rfl (fun C hC => ?_)
  (replace hC : C.n0 = 8 := hC; change Tri _ _ _ ⟨_, _, 8⟩ _)
  (refine Tri.cut 3 Tryz.mixed Tryz.T_ok ?_; ((conv => arg 5; whnf); repeat (refine xS ?_; conv => arg 5; whnf)))
  (refine wFd ?_ ?_; (first | refine decide_eq_false ?_ | rw [beq_eq_false_iff_ne] | rw [bne_eq_false_iff_eq]); exact (by (try simp only [ww] at *); omega); refine wGo ?_; ((conv => arg 5; whnf); repeat (refine xS ?_; conv => arg 5; whnf)))
  (apply wP; exact (call_op rfl (entersB_of Tryz.func41 (by kernel_rfl)) rfl (hmay.at [1, 2, 3, 4, 5, 6] ⟨lend_tx (t := t) (lend_ro0 rfl rfl) (lend_ro0 rfl rfl) (lend_ro0 rfl rfl) (lend_ro0 rfl rfl) (lend_ro0 rfl rfl) (lend_ro0 rfl rfl), trivial⟩ trivial)); ((conv => arg 5; whnf); repeat (refine xS ?_; conv => arg 5; whnf)))
  refine wD <| cutG <| Tri.ent (Ent.nils (t := 8) rfl 3 1) <| Tri.ent (Ent.nils (t := 9) rfl 3 1) <| Tri.seq ?_
  (refine Tri.cut 1 Tryz.mixed Tryz.T_ok ?_; ((conv => arg 5; whnf); repeat (refine xS ?_; conv => arg 5; whnf)))
  refine wD <| cutG <| Tri.block ?_
  refine Tri.loop (α := { i : Nat // i ≤ t.ins.length ∧ firstE S t h i = 0 }) (fun i => rpSt R t h i.1 (inAmts S t h i.1) 0 [] (some (XV.int .i64 i.1)) none none) (fun i => t.ins.length - i.1) ⟨0, Nat.zero_le _, rfl⟩ ?_ ?_
  · unfold rpSt rpM
    ((try dsimp only); refine Ent.renC [0, 1, 2, 3, 4, 5, 6, 7, 8, 21, 22] hC ?_ ?_ <;> repeat' (first | exact trivial | exact rfl | exact ⟨_, rfl, rfl, rfl, Nat.le_refl _, fun _ _ => rfl⟩ | exact ⟨_, rfl, rfl, rfl, fun _ _ => rfl⟩ | exact ⟨_, rfl, rfl, rfl⟩ | exact ⟨_, rfl, rfl⟩ | refine ⟨_, rfl, rfl, rfl, by omega, fun k hk => ?_⟩ | refine ⟨?_, ?_⟩ | fail))
    all_goals exact absurd hk (Nat.not_lt_zero _)
  rintro ⟨i, hi, he⟩
  unfold rpSt rpM
  dsimp only
  (refine Tri.cut 1 Tryz.mixed Tryz.T_ok ?_; ((conv => arg 5; whnf); repeat (refine xS ?_; conv => arg 5; whnf)))
  refine wC (fun h1 => ?_) (fun h1 => ?_)
  · (refine wGo ?_; ((conv => arg 5; whnf); repeat (refine xS ?_; conv => arg 5; whnf)))
    have h1' : i < t.ins.length := (by (try simp only [ww] at *); omega)
    have hw : IntKind.i64.wrap ((i : Int) + 1) = ((i + 1 : Nat) : Int) := (by (try simp only [ww] at *); omega)
    have hA := inAmts_succ S t h i
    have hF : firstE S t h (i + 1) = (inAt S t h i).2 := by rw [firstE, if_pos he]
    have late : ∀ e, (inAt S t h i).2 = e → e ≠ 0 → payE S t h = (0, e) := fun e h2 h3 => by
      have hl : firstE S t h t.ins.length = e := by rw [firstE_late (m := i + 1) h1' (by rw [hF, h2]; exact h3), hF, h2]
      rw [payE, if_neg (by rw [hl]; exact h3), hl]
    obtain ⟨x, hx⟩ : ∃ x, t.ins.getD i default = x := ⟨_, rfl⟩
    have hin : inAt S t h i = inE S t i h x := by rw [inAt, hx]
    have bad : badIn S x = true → inE S t i h x = (coin0, 6) := fun e => by rw [inE, if_pos e]
    have good : badIn S x = false → inE S t i h x = if ((S.get x.pt).base && waitB (S.get x.pt).height.toInt h) = true then (coin0, 20) else if chkT x.key (msgH t i) x.sig = false then (coin0, 7) else (S.get x.pt, 0) := fun e => by rw [inE, if_neg (by rw [e]; simp)]
    refine wD <| cutG <| Tri.seq <| Tri.block <| Tri.of Tryz.mixed Tryz.T_ok ?_
    (refine wBegin ?_; ((conv => arg 5; whnf); repeat (refine xS ?_; conv => arg 5; whnf)))
    (repeat (refine wN ?_ ?_; exact (by (try simp only [ww] at *); omega); refine wGo ?_; ((conv => arg 5; whnf); repeat (refine xS ?_; conv => arg 5; whnf))))
    simp only [Nat.zero_add, Int.toNat_natCast, hx]
    (apply wP; exact (call_op rfl (entersB_of Tryz.func42 (by kernel_rfl)) rfl (rcGet_alike hSR hPC hlen x.pt rfl rfl)); ((conv => arg 5; whnf); repeat (refine xS ?_; conv => arg 5; whnf)))
    refine wC (fun h2 => ?_) (fun h2 => ?_)
    · have h2 : S.has x.pt = false := by simpa using h2
      (refine wGo ?_; ((conv => arg 5; whnf); repeat (refine xS ?_; conv => arg 5; whnf)))
      refine wD <| blockR <| cutR <| loopR <| blockR <| cutR <| Ends.shutN (.inr rfl) (Ent.refl _) rfl rfl ?_
      rw [late 6 (by rw [hin, bad (by rw [badIn, h2]; rfl)]) (by decide)]; rfl
    · have h2 : S.has x.pt = true := by simpa using h2
      (refine wGo ?_; ((conv => arg 5; whnf); repeat (refine xS ?_; conv => arg 5; whnf)))
      (refine wP _ _ (neq_op hashE rfl (S.get x.pt).to x.key rfl rfl) ?_; ((conv => arg 5; whnf); repeat (refine xS ?_; conv => arg 5; whnf)))
      refine wC (fun h3 => ?_) (fun h3 => ?_)
      · (refine wGo ?_; ((conv => arg 5; whnf); repeat (refine xS ?_; conv => arg 5; whnf)))
        refine wD <| blockR <| cutR <| loopR <| blockR <| cutR <| Ends.shutN (.inr rfl) (Ent.refl _) rfl rfl ?_
        rw [late 6 (by rw [hin, bad (by rw [badIn, h2, h3]; rfl)]) (by decide)]; rfl
      · (refine wGo ?_; ((conv => arg 5; whnf); repeat (refine xS ?_; conv => arg 5; whnf)))
        replace good := good (by rw [badIn, h2, h3]; rfl)
        refine wC (fun h4 => ?_) (fun h4 => ?_)
        · (refine wGo ?_; ((conv => arg 5; whnf); repeat (refine xS ?_; conv => arg 5; whnf)))
          refine wC (fun h6 => ?_) (fun h6 => ?_)
          · (refine wGo ?_; ((conv => arg 5; whnf); repeat (refine xS ?_; conv => arg 5; whnf)))
            refine wD <| blockR <| cutR <| loopR <| blockR <| cutR <| Ends.shutN (.inr rfl) (Ent.refl _) rfl rfl ?_
            rw [late 20 (by rw [hin, good, if_pos (by rw [waitB, h4, h6]; rfl)]) (by decide)]; rfl
          · (refine wGo ?_; ((conv => arg 5; whnf); repeat (refine xS ?_; conv => arg 5; whnf)))
            refine wC (fun h7 => ?_) (fun h7 => ?_)
            · (refine wGo ?_; ((conv => arg 5; whnf); repeat (refine xS ?_; conv => arg 5; whnf)))
              refine wD <| blockR <| cutR <| loopR <| blockR <| cutR <| Ends.shutN (.inr rfl) (Ent.refl _) rfl rfl ?_
              rw [late 20 (by rw [hin, good, if_pos (by rw [waitB, h4, h6, h7]; rfl)]) (by decide)]; rfl
            · (refine wGo ?_; ((conv => arg 5; whnf); repeat (refine xS ?_; conv => arg 5; whnf)))
              rw [if_neg (by rw [waitB, h4, h6, h7]; simp)] at good
              (apply wP; exact (call_op rfl (entersB_of Tryz.func26 (by kernel_rfl)) rfl ((rmessage_can t i hk hs hc hm h1').at [1, 2, 3, 4, 5, 6] ⟨lend_tx (t := t) (lend_ro0 rfl rfl) (lend_ro0 rfl rfl) (lend_ro0 rfl rfl) (lend_ro0 rfl rfl) (lend_ro0 rfl rfl) (lend_ro0 rfl rfl), lend_plain rfl, trivial⟩ trivial)); ((conv => arg 5; whnf); repeat (refine xS ?_; conv => arg 5; whnf)))
              (apply wP; exact (call_op rfl (entersB_of Tryz.func43 (by kernel_rfl)) rfl ((checkTree_can x.key (msgH t i) x.sig).at [] ⟨lend_plain rfl, lend_plain rfl, lend_plain rfl, trivial⟩ trivial)); ((conv => arg 5; whnf); repeat (refine xS ?_; conv => arg 5; whnf)))
              refine wC (fun h5 => ?_) (fun h5 => ?_)
              · have h5 : chkT x.key (msgH t i) x.sig = false := by simpa using h5
                (refine wGo ?_; ((conv => arg 5; whnf); repeat (refine xS ?_; conv => arg 5; whnf)))
                refine wD <| blockR <| cutR <| loopR <| blockR <| cutR <| Ends.shutN (.inr rfl) (Ent.refl _) rfl rfl ?_
                rw [late 7 (by rw [hin, good, if_pos h5]) (by decide)]; rfl
              · have h5 : chkT x.key (msgH t i) x.sig = true := by simpa using h5
                have hR : inAt S t h i = (S.get x.pt, 0) := by rw [hin, good, if_neg (by rw [h5]; simp)]
                rw [hR] at hA hF
                (refine wGo ?_; ((conv => arg 5; whnf); repeat (refine xS ?_; conv => arg 5; whnf)))
                (refine wP _ _ (append_op Tryz.T_ok rfl rfl rfl rfl rfl [9, 80] (old_vec rfl rfl (Nat.le_refl _) rfl) (new_vec (lo := 0) rfl rfl (Nat.le_refl _) rfl) rfl (lt1 rfl) (by simp only [maxLen]; omega) (by dsimp only; omega)) ?_; ((conv => arg 5; whnf); repeat (refine xS ?_; conv => arg 5; whnf)))
                refine wD <| blockN <| cutG <| Tri.of Tryz.mixed Tryz.T_ok ?_
                (refine wBegin ?_; ((conv => arg 5; whnf); repeat (refine xS ?_; conv => arg 5; whnf)))
                refine wD <| loopN ⟨⟨i + 1, h1', hF⟩, by dsimp only; omega, ?_⟩
                rw [hw]
                dsimp only
                rw [hA]
                ((try dsimp only); refine Ent.renC [0, 1, 2, 3, 4, 5, 6, 7, 8, 81, 10] hC ?_ ?_ <;> repeat' (first | exact trivial | exact rfl | exact ⟨_, rfl, rfl, rfl, Nat.le_refl _, fun _ _ => rfl⟩ | exact ⟨_, rfl, rfl, rfl, fun _ _ => rfl⟩ | exact ⟨_, rfl, rfl, rfl⟩ | exact ⟨_, rfl, rfl⟩ | refine ⟨_, rfl, rfl, rfl, by omega, fun k hk => ?_⟩ | refine ⟨?_, ?_⟩ | fail))
                exact amts_snoc (inAmts_length _ _ _ _).symm rfl hk
        · (refine wGo ?_; ((conv => arg 5; whnf); repeat (refine xS ?_; conv => arg 5; whnf)))
          rw [if_neg (by rw [h4]; simp)] at good
          (apply wP; exact (call_op rfl (entersB_of Tryz.func26 (by kernel_rfl)) rfl ((rmessage_can t i hk hs hc hm h1').at [1, 2, 3, 4, 5, 6] ⟨lend_tx (t := t) (lend_ro0 rfl rfl) (lend_ro0 rfl rfl) (lend_ro0 rfl rfl) (lend_ro0 rfl rfl) (lend_ro0 rfl rfl) (lend_ro0 rfl rfl), lend_plain rfl, trivial⟩ trivial)); ((conv => arg 5; whnf); repeat (refine xS ?_; conv => arg 5; whnf)))
          (apply wP; exact (call_op rfl (entersB_of Tryz.func43 (by kernel_rfl)) rfl ((checkTree_can x.key (msgH t i) x.sig).at [] ⟨lend_plain rfl, lend_plain rfl, lend_plain rfl, trivial⟩ trivial)); ((conv => arg 5; whnf); repeat (refine xS ?_; conv => arg 5; whnf)))
          refine wC (fun h5 => ?_) (fun h5 => ?_)
          · have h5 : chkT x.key (msgH t i) x.sig = false := by simpa using h5
            (refine wGo ?_; ((conv => arg 5; whnf); repeat (refine xS ?_; conv => arg 5; whnf)))
            refine wD <| blockR <| cutR <| loopR <| blockR <| cutR <| Ends.shutN (.inr rfl) (Ent.refl _) rfl rfl ?_
            rw [late 7 (by rw [hin, good, if_pos h5]) (by decide)]; rfl
          · have h5 : chkT x.key (msgH t i) x.sig = true := by simpa using h5
            have hR : inAt S t h i = (S.get x.pt, 0) := by rw [hin, good, if_neg (by rw [h5]; simp)]
            rw [hR] at hA hF
            (refine wGo ?_; ((conv => arg 5; whnf); repeat (refine xS ?_; conv => arg 5; whnf)))
            (refine wP _ _ (append_op Tryz.T_ok rfl rfl rfl rfl rfl [9, 80] (old_vec rfl rfl (Nat.le_refl _) rfl) (new_vec (lo := 0) rfl rfl (Nat.le_refl _) rfl) rfl (lt1 rfl) (by simp only [maxLen]; omega) (by dsimp only; omega)) ?_; ((conv => arg 5; whnf); repeat (refine xS ?_; conv => arg 5; whnf)))
            refine wD <| blockN <| cutG <| Tri.of Tryz.mixed Tryz.T_ok ?_
            (refine wBegin ?_; ((conv => arg 5; whnf); repeat (refine xS ?_; conv => arg 5; whnf)))
            refine wD <| loopN ⟨⟨i + 1, h1', hF⟩, by dsimp only; omega, ?_⟩
            rw [hw]
            dsimp only
            rw [hA]
            ((try dsimp only); refine Ent.renC [0, 1, 2, 3, 4, 5, 6, 7, 8, 81, 10] hC ?_ ?_ <;> repeat' (first | exact trivial | exact rfl | exact ⟨_, rfl, rfl, rfl, Nat.le_refl _, fun _ _ => rfl⟩ | exact ⟨_, rfl, rfl, rfl, fun _ _ => rfl⟩ | exact ⟨_, rfl, rfl, rfl⟩ | exact ⟨_, rfl, rfl⟩ | refine ⟨_, rfl, rfl, rfl, by omega, fun k hk => ?_⟩ | refine ⟨?_, ?_⟩ | fail))
            exact amts_snoc (inAmts_length _ _ _ _).symm rfl hk
  · (refine wGo ?_; ((conv => arg 5; whnf); repeat (refine xS ?_; conv => arg 5; whnf)))
    have h1' : i = t.ins.length := (by (try simp only [ww] at *); omega)
    subst h1'
    refine wD <| cutE <| loopX <| blockX <| cutG <| Tri.seq ?_
    (refine Tri.cut 1 Tryz.mixed Tryz.T_ok ?_; ((conv => arg 5; whnf); repeat (refine xS ?_; conv => arg 5; whnf)))
    refine wD <| cutG <| Tri.block ?_
    refine Tri.loop (α := { j : Nat // j ≤ t.outs.length }) (fun j => rpSt R t h t.ins.length (inAmts S t h t.ins.length) j.1 ((t.outs.take j.1).map fun o => o.amt.toInt) none (some (XV.int .i64 j.1)) none) (fun j => t.outs.length - j.1) ⟨0, Nat.zero_le _⟩ ?_ ?_
    · unfold rpSt rpM
      dsimp only
      rw [List.take_zero, List.map_nil]
      ((try dsimp only); refine Ent.renC [0, 1, 2, 3, 4, 5, 6, 7, 8, 9, 10] hC ?_ ?_ <;> repeat' (first | exact trivial | exact rfl | exact ⟨_, rfl, rfl, rfl, Nat.le_refl _, fun _ _ => rfl⟩ | exact ⟨_, rfl, rfl, rfl, fun _ _ => rfl⟩ | exact ⟨_, rfl, rfl, rfl⟩ | exact ⟨_, rfl, rfl⟩ | refine ⟨_, rfl, rfl, rfl, by omega, fun k hk => ?_⟩ | refine ⟨?_, ?_⟩ | fail))
    rintro ⟨j, hj⟩
    unfold rpSt rpM
    dsimp only
    (refine Tri.cut 1 Tryz.mixed Tryz.T_ok ?_; ((conv => arg 5; whnf); repeat (refine xS ?_; conv => arg 5; whnf)))
    refine wC (fun h2 => ?_) (fun h2 => ?_)
    · (refine wGo ?_; ((conv => arg 5; whnf); repeat (refine xS ?_; conv => arg 5; whnf)))
      have h2' : j < t.outs.length := (by (try simp only [ww] at *); omega)
      have hw : IntKind.i64.wrap ((j : Int) + 1) = ((j + 1 : Nat) : Int) := (by (try simp only [ww] at *); omega)
      refine wD <| cutG <| Tri.seq <| Tri.block <| Tri.of Tryz.mixed Tryz.T_ok ?_
      (refine wBegin ?_; ((conv => arg 5; whnf); repeat (refine xS ?_; conv => arg 5; whnf)))
      (repeat (refine wN ?_ ?_; exact (by (try simp only [ww] at *); omega); refine wGo ?_; ((conv => arg 5; whnf); repeat (refine xS ?_; conv => arg 5; whnf))))
      simp only [Nat.zero_add, Int.toNat_natCast]
      (refine wP _ _ (append_op Tryz.T_ok rfl rfl rfl rfl rfl [10, 23] (old_vec rfl rfl (Nat.le_refl _) rfl) (new_vec (lo := 0) rfl rfl (Nat.le_refl _) rfl) rfl (lt1 rfl) (by simp only [maxLen]; omega) (by dsimp only; omega)) ?_; ((conv => arg 5; whnf); repeat (refine xS ?_; conv => arg 5; whnf)))
      refine wD <| blockN <| cutG <| Tri.of Tryz.mixed Tryz.T_ok ?_
      (refine wBegin ?_; ((conv => arg 5; whnf); repeat (refine xS ?_; conv => arg 5; whnf)))
      refine wD <| loopN ⟨⟨j + 1, h2'⟩, by dsimp only; omega, ?_⟩
      rw [hw]
      dsimp only
      rw [map_take_succ _ h2']
      ((try dsimp only); refine Ent.renC [0, 1, 2, 3, 4, 5, 6, 7, 8, 9, 24] hC ?_ ?_ <;> repeat' (first | exact trivial | exact rfl | exact ⟨_, rfl, rfl, rfl, Nat.le_refl _, fun _ _ => rfl⟩ | exact ⟨_, rfl, rfl, rfl, fun _ _ => rfl⟩ | exact ⟨_, rfl, rfl, rfl⟩ | exact ⟨_, rfl, rfl⟩ | refine ⟨_, rfl, rfl, rfl, by omega, fun k hk => ?_⟩ | refine ⟨?_, ?_⟩ | fail))
      exact amts_snoc (by rw [List.length_map, List.length_take]; omega) rfl hk
    · (refine wGo ?_; ((conv => arg 5; whnf); repeat (refine xS ?_; conv => arg 5; whnf)))
      have h2' : j = t.outs.length := (by (try simp only [ww] at *); omega)
      subst h2'
      rw [List.take_length]
      refine wD <| cutE <| loopX <| blockX <| cutG <| Tri.seq ?_
      (refine Tri.cut 1 Tryz.mixed Tryz.T_ok ?_; ((conv => arg 5; whnf); repeat (refine xS ?_; conv => arg 5; whnf)))
      refine wD <| cutG <| Tri.block ?_
      refine Tri.loop (α := { j : Nat // j ≤ t.fwds.length }) (fun j => rpSt R t h t.ins.length (inAmts S t h t.ins.length) (t.outs.length + j.1) ((t.outs.map fun o => o.amt.toInt) ++ (t.fwds.take j.1).map fun f => f.amt.toInt) none none (some (XV.int .i64 j.1))) (fun j => t.fwds.length - j.1) ⟨0, Nat.zero_le _⟩ ?_ ?_
      · unfold rpSt rpM
        dsimp only
        rw [List.take_zero, List.map_nil, List.append_nil, Nat.add_zero]
        ((try dsimp only); refine Ent.renC [0, 1, 2, 3, 4, 5, 6, 7, 8, 9, 10] hC ?_ ?_ <;> repeat' (first | exact trivial | exact rfl | exact ⟨_, rfl, rfl, rfl, Nat.le_refl _, fun _ _ => rfl⟩ | exact ⟨_, rfl, rfl, rfl, fun _ _ => rfl⟩ | exact ⟨_, rfl, rfl, rfl⟩ | exact ⟨_, rfl, rfl⟩ | refine ⟨_, rfl, rfl, rfl, by omega, fun k hk => ?_⟩ | refine ⟨?_, ?_⟩ | fail))
      rintro ⟨j, hj⟩
      unfold rpSt rpM
      dsimp only
      (refine Tri.cut 1 Tryz.mixed Tryz.T_ok ?_; ((conv => arg 5; whnf); repeat (refine xS ?_; conv => arg 5; whnf)))
      refine wC (fun h3 => ?_) (fun h3 => ?_)
      · (refine wGo ?_; ((conv => arg 5; whnf); repeat (refine xS ?_; conv => arg 5; whnf)))
        have h3' : j < t.fwds.length := (by (try simp only [ww] at *); omega)
        have hw : IntKind.i64.wrap ((j : Int) + 1) = ((j + 1 : Nat) : Int) := (by (try simp only [ww] at *); omega)
        refine wD <| cutG <| Tri.seq <| Tri.block <| Tri.of Tryz.mixed Tryz.T_ok ?_
        (refine wBegin ?_; ((conv => arg 5; whnf); repeat (refine xS ?_; conv => arg 5; whnf)))
        (repeat (refine wN ?_ ?_; exact (by (try simp only [ww] at *); omega); refine wGo ?_; ((conv => arg 5; whnf); repeat (refine xS ?_; conv => arg 5; whnf))))
        simp only [Nat.zero_add, Int.toNat_natCast]
        (refine wP _ _ (append_op Tryz.T_ok rfl rfl rfl rfl rfl [10, 23] (old_vec rfl rfl (Nat.le_refl _) rfl) (new_vec (lo := 0) rfl rfl (Nat.le_refl _) rfl) rfl (lt1 rfl) (by simp only [maxLen]; omega) (by dsimp only; omega)) ?_; ((conv => arg 5; whnf); repeat (refine xS ?_; conv => arg 5; whnf)))
        refine wD <| blockN <| cutG <| Tri.of Tryz.mixed Tryz.T_ok ?_
        (refine wBegin ?_; ((conv => arg 5; whnf); repeat (refine xS ?_; conv => arg 5; whnf)))
        refine wD <| loopN ⟨⟨j + 1, h3'⟩, by dsimp only; omega, ?_⟩
        rw [hw]
        dsimp only
        rw [map_take_succ _ h3', ← List.append_assoc]
        ((try dsimp only); refine Ent.renC [0, 1, 2, 3, 4, 5, 6, 7, 8, 9, 24] hC ?_ ?_ <;> repeat' (first | exact trivial | exact rfl | exact ⟨_, rfl, rfl, rfl, Nat.le_refl _, fun _ _ => rfl⟩ | exact ⟨_, rfl, rfl, rfl, fun _ _ => rfl⟩ | exact ⟨_, rfl, rfl, rfl⟩ | exact ⟨_, rfl, rfl⟩ | refine ⟨_, rfl, rfl, rfl, by omega, fun k hk => ?_⟩ | refine ⟨?_, ?_⟩ | fail))
        exact amts_snoc (by simp only [List.length_append, List.length_map, List.length_take]; omega) rfl hk
      · (refine wGo ?_; ((conv => arg 5; whnf); repeat (refine xS ?_; conv => arg 5; whnf)))
        have h3' : j = t.fwds.length := (by (try simp only [ww] at *); omega)
        subst h3'
        rw [List.take_length]
        refine wD <| cutE <| loopX <| blockX <| cutG <| Tri.of Tryz.mixed Tryz.T_ok ?_
        have hL := inAmts_length S t h t.ins.length
        have hL2 : (payAmts t).length = t.outs.length + t.fwds.length := by simp [payAmts]
        have hp : payE S t h = feeE (sumM 0 (inAmts S t h t.ins.length)) (sumM 0 (payAmts t)) := by rw [payE, if_pos he]
        obtain ⟨A, hA⟩ : ∃ A, sumM 0 (inAmts S t h t.ins.length) = A := ⟨_, rfl⟩
        obtain ⟨B, hB⟩ : ∃ B, sumM 0 (payAmts t) = B := ⟨_, rfl⟩
        have cA := rmsum_can (inAmts S t h t.ins.length) (by omega)
        have cB := rmsum_can (payAmts t) (by omega)
        have mA := sumM_may (inAmts S t h t.ins.length) 0
        have mB := sumM_may (payAmts t) 0
        rw [sumX, hA] at cA
        rw [sumX, hB] at cB
        rw [hA] at mA
        rw [hB] at mB
        rw [hA, hB] at hp
        (refine wBegin ?_; ((conv => arg 5; whnf); repeat (refine xS ?_; conv => arg 5; whnf)))
        (apply wP; exact (call_op rfl (entersB_of Tryz.func44 (by kernel_rfl)) rfl (cA.at [9] ⟨by rw [hL]; exact lend_vec0 rfl rfl, trivial⟩ trivial)); ((conv => arg 5; whnf); repeat (refine xS ?_; conv => arg 5; whnf)))
        (apply wP; exact (call_op rfl (entersB_of Tryz.func44 (by kernel_rfl)) rfl (cB.at [10] ⟨by rw [hL2]; exact lend_vec0 rfl rfl, trivial⟩ trivial)); ((conv => arg 5; whnf); repeat (refine xS ?_; conv => arg 5; whnf)))
        refine wC (fun h4 => ?_) (fun h4 => ?_)
        · (refine wGo ?_; ((conv => arg 5; whnf); repeat (refine xS ?_; conv => arg 5; whnf)))
          refine wD (Ends.shutN (.inr rfl) (Ent.refl _) rfl rfl ?_)
          rw [hp, feeE, if_pos (by rw [h4]; rfl)]; rfl
        · (refine wGo ?_; ((conv => arg 5; whnf); repeat (refine xS ?_; conv => arg 5; whnf)))
          refine wC (fun h5 => ?_) (fun h5 => ?_)
          · (refine wGo ?_; ((conv => arg 5; whnf); repeat (refine xS ?_; conv => arg 5; whnf)))
            refine wD (Ends.shutN (.inr rfl) (Ent.refl _) rfl rfl ?_)
            rw [hp, feeE, if_pos (by rw [h4, h5]; rfl)]; rfl
          · (refine wGo ?_; ((conv => arg 5; whnf); repeat (refine xS ?_; conv => arg 5; whnf)))
            obtain ⟨a, rfl⟩ := Option.isSome_iff_exists.1 (by simpa using h4 : A.isSome = true)
            obtain ⟨b, rfl⟩ := Option.isSome_iff_exists.1 (by simpa using h5 : B.isSome = true)
            have hb := bothB_sub (mA a (by decide) rfl) (mB b (by decide) rfl)
            refine wC (fun h6 => ?_) (fun h6 => ?_)
            · have h6' : decide (a < b) = true := by simpa using h6
              (refine wGo ?_; ((conv => arg 5; whnf); repeat (refine xS ?_; conv => arg 5; whnf)))
              refine wD (Ends.shutN (.inr rfl) (Ent.refl _) rfl rfl ?_)
              rw [hp, feeE, if_pos (by show (!true || (!true || !bothB a b (IntKind.i64.wrap (a - b)))) = true; rw [hb, h6']; rfl)]; rfl
            · have h6' : decide (a < b) = false := by simpa using h6
              (refine wGo ?_; ((conv => arg 5; whnf); repeat (refine xS ?_; conv => arg 5; whnf)))
              refine wD (Ends.shutN (.inr rfl) (Ent.refl _) rfl rfl ?_)
              rw [hp, feeE, if_neg (by show ¬ (!true || (!true || !bothB a b (IntKind.i64.wrap (a - b)))) = true; rw [hb, h6']; decide)]; rfl
end Go.Proofs.YtmoohekgheoliaaGreatDoor
namespace Go.Proofs.YtmoohekgheoliaaGreatDoor
set_option maxRecDepth 100000
open Go.Sx
def routsGo (id : H8) (h : Int64) (base : Bool) : RC → Nat → List OutM → RC × Int
  | R, _, [] => (R, 0)
  | R, i, o :: r => if R.isAt (ptAt id i) = true then (R, 6) else if R.okB (ptAt id i) ⟨o.to, o.amt, h, base⟩ = true then routsGo id h base (R.add1 (ptAt id i) ⟨o.to, o.amt, h, base⟩) (i + 1) r else (R, 5)
theorem posIn_all_le (p : Pt) (l : List Pt) : posIn p l ≤ l.length := posIn_le p l
theorem radd1_len {R : RC} (hPC : R.P.length = R.C.length) (p : Pt) (c : Coin) : (R.add1 p c).P.length = R.P.length + 1 ∧ (R.add1 p c).P.length = (R.add1 p c).C.length := by
  have h := posIn_all_le p R.P
  have h' : R.pos p ≤ R.P.length := h
  simp only [RC.add1, List.length_append, List.length_take, List.length_drop, List.length_cons]
  omega
structure ROutsI (id : H8) (h : Int64) (base : Bool) (R : RC) (l : List OutM) where
  i : Nat
  W : RC
  le : i ≤ l.length
  go : routsGo id h base R 0 l = routsGo id h base W i (l.drop i)
  len : W.P.length = R.P.length + i
  same : W.P.length = W.C.length
def roSt (id : H8) (h : Int64) (base : Bool) (l : List OutM) (W : RC) (i : Nat) : St :=
  ⟨[some (XV.sv (.ptr 0 0 0 0)), none, some (XV.sv (.slc 2 9 0 l.length)), some (XV.int .i64 h.toInt), some (XV.bool base), none, some (XV.sv (.ptr 5 0 0 0)), none, none, none, none, some (XV.int .i64 i)] ++ List.replicate 30 none, [(0, .abs (rcP W)), (2, .ro 9 l.length (outsF l)), (5, .cells 39 (id.cells.map .raw))], 6⟩
set_option maxHeartbeats 2000000 in
theorem raddouts_can (R : RC) (id : H8) (l : List OutM) (h : Int64) (base : Bool) (hl : l.length ≤ 1000) (hPC : R.P.length = R.C.length) (hR : R.P.length < 900000) :
    Acts Tryz.prog 23 (.abs (rcP R)) (.abs (rcP (routsGo id h base R 0 l).1)) [.plain id.x, .row 9 l.length (outsF l), .plain (.one (.raw (.int .i64 h.toInt))), .plain (.one (.raw (.bool base)))] [] (XV.int .i64 (routsGo id h base R 0 l).2) := by
  refine Acts.of Tryz.T_ok Tryz.func23 rfl _ _ _ _ _ rfl rfl rfl (fun C hC => ?_)
  (replace hC : C.n0 = 5 := hC; change Tri _ _ _ ⟨_, _, 5⟩ _)
  (refine Tri.cut 1 Tryz.mixed Tryz.T_ok ?_; ((conv => arg 5; whnf); repeat (refine xS ?_; conv => arg 5; whnf)))
  refine wD <| cutG <| Tri.seq ?_
  (refine Tri.cut 1 Tryz.mixed Tryz.T_ok ?_; ((conv => arg 5; whnf); repeat (refine xS ?_; conv => arg 5; whnf)))
  refine wD <| cutG <| Tri.block ?_
  refine Tri.loop (α := ROutsI id h base R l) (fun x => roSt id h base l x.W x.i) (fun x => l.length - x.i) ⟨0, R, Nat.zero_le _, rfl, rfl, hPC⟩ ?_ ?_
  · unfold roSt
    ((try dsimp only); refine Ent.renC [0, 1, 2, 3, 4, 5] hC ?_ ?_ <;> repeat' (first | exact trivial | exact rfl | exact ⟨_, rfl, rfl, rfl, Nat.le_refl _, fun _ _ => rfl⟩ | exact ⟨_, rfl, rfl, rfl, fun _ _ => rfl⟩ | exact ⟨_, rfl, rfl, rfl⟩ | exact ⟨_, rfl, rfl⟩ | refine ⟨_, rfl, rfl, rfl, by omega, fun k hk => ?_⟩ | refine ⟨?_, ?_⟩ | fail))
  rintro ⟨i, W, hi, hg, hst, hWC⟩
  unfold roSt
  dsimp only
  (refine Tri.cut 1 Tryz.mixed Tryz.T_ok ?_; ((conv => arg 5; whnf); repeat (refine xS ?_; conv => arg 5; whnf)))
  refine wC (fun h1 => ?_) (fun h1 => ?_)
  · (refine wGo ?_; ((conv => arg 5; whnf); repeat (refine xS ?_; conv => arg 5; whnf)))
    have h1' : i < l.length := (by (try simp only [ww] at *); omega)
    have hw : IntKind.i64.wrap ((i : Int) + 1) = ((i + 1 : Nat) : Int) := (by (try simp only [ww] at *); omega)
    have e64 := ofNat_toInt (i := i) (by omega)
    rw [dropD_cons h1', routsGo] at hg
    refine wD <| cutG <| Tri.seq <| Tri.block <| Tri.of Tryz.mixed Tryz.T_ok ?_
    (refine wBegin ?_; ((conv => arg 5; whnf); repeat (refine xS ?_; conv => arg 5; whnf)))
    rw [e64]
    (apply wP; exact (call_op rfl (entersB_of Tryz.func42 (by kernel_rfl)) rfl (rcGet_spec W (ptAt id i) hWC (by omega) rfl rfl)); ((conv => arg 5; whnf); repeat (refine xS ?_; conv => arg 5; whnf)))
    refine wC (fun h2 => ?_) (fun h2 => ?_)
    · rw [if_pos h2] at hg
      (refine wGo ?_; ((conv => arg 5; whnf); repeat (refine xS ?_; conv => arg 5; whnf)))
      refine wD <| blockR <| cutR <| loopR <| blockR <| cutR ?_
      rw [hg]
      exact Ends.shutN (.inr rfl) (Ent.refl _) rfl rfl rfl
    · rw [if_neg (by rw [h2]; simp)] at hg
      (refine wGo ?_; ((conv => arg 5; whnf); repeat (refine xS ?_; conv => arg 5; whnf)))
      rw [← e64]
      (repeat (refine wN ?_ ?_; exact (by (try simp only [ww] at *); omega); refine wGo ?_; ((conv => arg 5; whnf); repeat (refine xS ?_; conv => arg 5; whnf))))
      simp only [Nat.zero_add, Int.toNat_natCast]
      rw [e64]
      (apply wP; exact (call_op rfl (entersB_of Tryz.func31 (by kernel_rfl)) rfl (rcAdd_spec W (ptAt id i) ⟨(l.getD i default).to, (l.getD i default).amt, h, base⟩ hWC (by omega) rfl rfl)); ((conv => arg 5; whnf); repeat (refine xS ?_; conv => arg 5; whnf)))
      refine wC (fun h3 => ?_) (fun h3 => ?_)
      · have h3 : W.okB (ptAt id i) ⟨(l.getD i default).to, (l.getD i default).amt, h, base⟩ = false := by simpa using h3
        rw [if_neg (by rw [h3]; simp)] at hg
        (refine wGo ?_; ((conv => arg 5; whnf); repeat (refine xS ?_; conv => arg 5; whnf)))
        refine wD <| blockR <| cutR <| loopR <| blockR <| cutR ?_
        rw [hg, RC.add, if_neg (by rw [h3]; simp)]
        exact Ends.shutN (.inr rfl) (Ent.refl _) rfl rfl rfl
      · have h3 : W.okB (ptAt id i) ⟨(l.getD i default).to, (l.getD i default).amt, h, base⟩ = true := by simpa using h3
        rw [if_pos h3] at hg
        (refine wGo ?_; ((conv => arg 5; whnf); repeat (refine xS ?_; conv => arg 5; whnf)))
        refine wD <| blockN <| cutG <| Tri.of Tryz.mixed Tryz.T_ok ?_
        (refine wBegin ?_; ((conv => arg 5; whnf); repeat (refine xS ?_; conv => arg 5; whnf)))
        have hln := radd1_len hWC (ptAt id i) ⟨(l.getD i default).to, (l.getD i default).amt, h, base⟩
        refine wD <| loopN ⟨⟨i + 1, W.add1 (ptAt id i) ⟨(l.getD i default).to, (l.getD i default).amt, h, base⟩, h1', hg, by omega, hln.2⟩, by dsimp only; omega, ?_⟩
        rw [← e64, hw, RC.add, if_pos h3]
        ((try dsimp only); refine Ent.renC [0, 1, 2, 3, 4, 5] hC ?_ ?_ <;> repeat' (first | exact trivial | exact rfl | exact ⟨_, rfl, rfl, rfl, Nat.le_refl _, fun _ _ => rfl⟩ | exact ⟨_, rfl, rfl, rfl, fun _ _ => rfl⟩ | exact ⟨_, rfl, rfl, rfl⟩ | exact ⟨_, rfl, rfl⟩ | refine ⟨_, rfl, rfl, rfl, by omega, fun k hk => ?_⟩ | refine ⟨?_, ?_⟩ | fail))
  · (refine wGo ?_; ((conv => arg 5; whnf); repeat (refine xS ?_; conv => arg 5; whnf)))
    have h1' : i = l.length := (by (try simp only [ww] at *); omega)
    subst h1'
    rw [List.drop_length, routsGo] at hg
    refine wD <| cutE <| loopX <| blockX <| cutG <| Tri.of Tryz.mixed Tryz.T_ok ?_
    rw [hg]
    (refine wBegin ?_; ((conv => arg 5; whnf); repeat (refine xS ?_; conv => arg 5; whnf)))
    exact wD (Ends.shutN (.inr rfl) (Ent.refl _) rfl rfl rfl)
def rspendAll (R : RC) (l : List InM) : RC := l.foldl (fun W x => W.spend x.pt) R
theorem rspendAll_snoc (R : RC) (l : List InM) (x : InM) : rspendAll R (l ++ [x]) = (rspendAll R l).spend x.pt := by simp [rspendAll]
theorem rspend_len {R : RC} (hPC : R.P.length = R.C.length) (p : Pt) : (R.spend p).P.length ≤ R.P.length ∧ (R.spend p).P.length = (R.spend p).C.length := by
  unfold RC.spend
  split
  · simp only [RC.spend1, List.length_append, List.length_take, List.length_drop]
    omega
  · exact ⟨Nat.le_refl _, hPC⟩
theorem rspendAll_len : ∀ (l : List InM) (R : RC), R.P.length = R.C.length → (rspendAll R l).P.length ≤ R.P.length ∧ (rspendAll R l).P.length = (rspendAll R l).C.length
  | [], _, h => ⟨Nat.le_refl _, h⟩
  | x :: l, R, h => by
    obtain ⟨h1, h2⟩ := rspend_len h x.pt
    obtain ⟨h3, h4⟩ := rspendAll_len l (R.spend x.pt) h2
    exact ⟨Nat.le_trans h3 h1, h4⟩
def rdoE (S : USet) (R : RC) (t : TxM) (h : Int64) : RC × (Int × Int) :=
  if (payE S t h.toInt).2 = 0 then
    (if (routsGo (payID t) h false (rspendAll R t.ins) 0 t.outs).2 = 0 then ((routsGo (payID t) h false (rspendAll R t.ins) 0 t.outs).1, ((payE S t h.toInt).1, 0)) else ((routsGo (payID t) h false (rspendAll R t.ins) 0 t.outs).1, (0, (routsGo (payID t) h false (rspendAll R t.ins) 0 t.outs).2)))
  else (R, (0, (payE S t h.toInt).2))
set_option maxHeartbeats 4000000 in
theorem rdo_can (S : USet) (R : RC) (hSR : AlikeR S R) (hPC : R.P.length = R.C.length) (hR : R.P.length < 800000) (t : TxM) (h : Int64) (hk : t.kind = 2) (hs : Sized t) (hc : t.claim.Wf) (hm : mayPay t hc = true) :
    Acts Tryz.prog 21 (.abs (rcP R)) (.abs (rcP (rdoE S R t h).1)) [.box t.ac, .plain (.one (.raw (.int .i64 h.toInt)))] [] (intsX (rdoE S R t h).2) := by
  have hpB := (mayPay_iff.1 hm).1
  rw [payB, Bool.and_eq_true, Bool.and_eq_true, insOK, Bool.and_eq_true, within_iff, outsOK, Bool.and_eq_true, decide_eq_true_eq] at hpB
  obtain ⟨⟨_, hins⟩, ⟨_, houts⟩, _⟩ := hpB
  have hpay := rpay_can S R hSR hPC (by omega) t h.toInt hk hs hc hm
  obtain ⟨P, hP⟩ : ∃ P, payE S t h.toInt = P := ⟨_, rfl⟩
  rw [hP] at hpay
  refine Acts.of Tryz.T_ok Tryz.func21 rfl _ _ _ _ _ rfl rfl rfl (fun C hC => ?_)
  (replace hC : C.n0 = 8 := hC; change Tri _ _ _ ⟨_, _, 8⟩ _)
  (refine Tri.cut 3 Tryz.mixed Tryz.T_ok ?_; ((conv => arg 5; whnf); repeat (refine xS ?_; conv => arg 5; whnf)))
  (apply wP; exact (call_op rfl (entersB_of Tryz.func19 (by kernel_rfl)) rfl (hpay.at [1, 2, 3, 4, 5, 6] rfl rfl rfl ⟨lend_tx (t := t) (lend_ro0 rfl rfl) (lend_ro0 rfl rfl) (lend_ro0 rfl rfl) (lend_ro0 rfl rfl) (lend_ro0 rfl rfl) (lend_ro0 rfl rfl), lend_plain rfl, trivial⟩ trivial)); ((conv => arg 5; whnf); repeat (refine xS ?_; conv => arg 5; whnf)))
  refine wC (fun h1 => ?_) (fun h1 => ?_)
  · have h1' : ¬ P.2 = 0 := by simpa using h1
    (refine wGo ?_; ((conv => arg 5; whnf); repeat (refine xS ?_; conv => arg 5; whnf)))
    refine wD <| cutR ?_
    rw [rdoE, if_neg (by rw [hP]; exact h1'), hP]
    exact Ends.shutN (.inr rfl) (Ent.refl _) rfl rfl rfl
  · have h1' : P.2 = 0 := by simpa using h1
    obtain ⟨O, hO⟩ : ∃ O, routsGo (payID t) h false (rspendAll R t.ins) 0 t.outs = O := ⟨_, rfl⟩
    have hst := rspendAll_len t.ins R hPC
    have hout := raddouts_can (rspendAll R t.ins) (payID t) t.outs h false (by omega) hst.2 (by omega)
    rw [hO] at hout
    rw [rdoE, if_pos (by rw [hP]; exact h1'), hO, hP]
    (refine wGo ?_; ((conv => arg 5; whnf); repeat (refine xS ?_; conv => arg 5; whnf)))
    refine wD <| cutG <| Tri.seq ?_
    (refine Tri.cut 1 Tryz.mixed Tryz.T_ok ?_; ((conv => arg 5; whnf); repeat (refine xS ?_; conv => arg 5; whnf)))
    refine wD <| cutG <| Tri.block ?_
    refine Tri.loop (α := { i : Nat // i ≤ t.ins.length }) (fun i => ⟨[some (XV.sv (.ptr 0 0 0 0)), none, some (XV.int .i64 h.toInt), none, some (XV.sv (.ptr 8 0 0 0)), none, none, none, some (XV.int .i64 P.1), none, some (XV.int .i64 i.1)] ++ List.replicate 42 none, (0, .abs (rcP (rspendAll R (t.ins.take i.1)))) :: (txRows t ++ [(8, .cells 49 (boxC 1 t.ac))]), 9⟩) (fun i => t.ins.length - i.1) ⟨0, Nat.zero_le _⟩ ?_ ?_
    · ((try dsimp only); refine Ent.renC [0, 1, 2, 3, 4, 5, 6, 7, 8] hC ?_ ?_ <;> repeat' (first | exact trivial | exact rfl | exact ⟨_, rfl, rfl, rfl, Nat.le_refl _, fun _ _ => rfl⟩ | exact ⟨_, rfl, rfl, rfl, fun _ _ => rfl⟩ | exact ⟨_, rfl, rfl, rfl⟩ | exact ⟨_, rfl, rfl⟩ | refine ⟨_, rfl, rfl, rfl, by omega, fun k hk => ?_⟩ | refine ⟨?_, ?_⟩ | fail))
    rintro ⟨i, hi⟩
    dsimp only
    (refine Tri.cut 1 Tryz.mixed Tryz.T_ok ?_; ((conv => arg 5; whnf); repeat (refine xS ?_; conv => arg 5; whnf)))
    refine wC (fun h2 => ?_) (fun h2 => ?_)
    · (refine wGo ?_; ((conv => arg 5; whnf); repeat (refine xS ?_; conv => arg 5; whnf)))
      have h2' : i < t.ins.length := (by (try simp only [ww] at *); omega)
      have hw : IntKind.i64.wrap ((i : Int) + 1) = ((i + 1 : Nat) : Int) := (by (try simp only [ww] at *); omega)
      have hst2 := rspendAll_len (t.ins.take i) R hPC
      refine wD <| cutG <| Tri.seq <| Tri.block <| Tri.of Tryz.mixed Tryz.T_ok ?_
      (refine wBegin ?_; ((conv => arg 5; whnf); repeat (refine xS ?_; conv => arg 5; whnf)))
      (repeat (refine wN ?_ ?_; exact (by (try simp only [ww] at *); omega); refine wGo ?_; ((conv => arg 5; whnf); repeat (refine xS ?_; conv => arg 5; whnf))))
      simp only [Nat.zero_add, Int.toNat_natCast]
      (apply wP; exact (call_op rfl (entersB_of Tryz.func47 (by kernel_rfl)) rfl (rcSpend_spec (rspendAll R (t.ins.take i)) (t.ins.getD i default).pt hst2.2 (by omega) rfl rfl)); ((conv => arg 5; whnf); repeat (refine xS ?_; conv => arg 5; whnf)))
      refine wD <| blockN <| cutG <| Tri.of Tryz.mixed Tryz.T_ok ?_
      (refine wBegin ?_; ((conv => arg 5; whnf); repeat (refine xS ?_; conv => arg 5; whnf)))
      refine wD <| loopN ⟨⟨i + 1, h2'⟩, by dsimp only; omega, ?_⟩
      rw [hw]
      dsimp only
      rw [take_snoc h2', rspendAll_snoc]
      ((try dsimp only); refine Ent.renC [0, 1, 2, 3, 4, 5, 6, 7, 8] hC ?_ ?_ <;> repeat' (first | exact trivial | exact rfl | exact ⟨_, rfl, rfl, rfl, Nat.le_refl _, fun _ _ => rfl⟩ | exact ⟨_, rfl, rfl, rfl, fun _ _ => rfl⟩ | exact ⟨_, rfl, rfl, rfl⟩ | exact ⟨_, rfl, rfl⟩ | refine ⟨_, rfl, rfl, rfl, by omega, fun k hk => ?_⟩ | refine ⟨?_, ?_⟩ | fail))
    · (refine wGo ?_; ((conv => arg 5; whnf); repeat (refine xS ?_; conv => arg 5; whnf)))
      have h2' : i = t.ins.length := (by (try simp only [ww] at *); omega)
      subst h2'
      rw [List.take_length]
      refine wD <| cutE <| loopX <| blockX <| cutG <| Tri.of Tryz.mixed Tryz.T_ok ?_
      (refine wBegin ?_; ((conv => arg 5; whnf); repeat (refine xS ?_; conv => arg 5; whnf)))
      (apply wP; exact (call_op rfl (entersB_of Tryz.func15 (by kernel_rfl)) rfl ((rid_can t hk hs hc hm).at [1, 2, 3, 4, 5, 6] ⟨lend_tx (t := t) (lend_ro0 rfl rfl) (lend_ro0 rfl rfl) (lend_ro0 rfl rfl) (lend_ro0 rfl rfl) (lend_ro0 rfl rfl) (lend_ro0 rfl rfl), trivial⟩ trivial)); ((conv => arg 5; whnf); repeat (refine xS ?_; conv => arg 5; whnf)))
      (apply wP; exact (call_op rfl (entersB_of Tryz.func23 (by kernel_rfl)) rfl (hout.at [2] rfl rfl rfl ⟨lend_plain rfl, lend_ro0 rfl rfl, lend_plain rfl, lend_plain rfl, trivial⟩ trivial)); ((conv => arg 5; whnf); repeat (refine xS ?_; conv => arg 5; whnf)))
      refine wC (fun h3 => ?_) (fun h3 => ?_)
      · have h3' : ¬ O.2 = 0 := by simpa using h3
        (refine wGo ?_; ((conv => arg 5; whnf); repeat (refine xS ?_; conv => arg 5; whnf)))
        rw [if_neg h3']
        exact wD (Ends.shutN (.inr rfl) (Ent.refl _) rfl rfl rfl)
      · have h3' : O.2 = 0 := by simpa using h3
        (refine wGo ?_; ((conv => arg 5; whnf); repeat (refine xS ?_; conv => arg 5; whnf)))
        rw [if_pos h3']
        exact wD (Ends.shutN (.inr rfl) (Ent.refl _) rfl rfl rfl)
end Go.Proofs.YtmoohekgheoliaaGreatDoor
namespace Go.Proofs.YtmoohekgheoliaaGreatDoor
set_option maxRecDepth 100000
open Go.Lib Go.Sort
def bigL : List UInt8 → Nat
  | [] => 0
  | x :: r => x.toNat * 256 ^ r.length + bigL r
theorem bigL_lt : ∀ l : List UInt8, bigL l < 256 ^ l.length
  | [] => by simp [bigL]
  | x :: r => by
    have := bigL_lt r
    have h := x.toNat_lt
    simp only [bigL, List.length_cons, Nat.pow_succ]
    have : (x.toNat + 1) * 256 ^ r.length ≤ 256 * 256 ^ r.length := Nat.mul_le_mul_right _ (by omega)
    rw [Nat.add_mul, Nat.one_mul] at this
    omega
theorem num_step (x y : UInt8) (m a b : Nat) (ha : a < m) (hb : b < m) : (x.toNat * m + a < y.toNat * m + b ↔ x.toNat < y.toNat ∨ (x = y ∧ a < b)) ∧ (x.toNat * m + a = y.toNat * m + b ↔ x = y ∧ a = b) := by
  rcases Nat.lt_trichotomy x.toNat y.toNat with h | h | h
  · have h1 : (x.toNat + 1) * m ≤ y.toNat * m := Nat.mul_le_mul_right _ h
    rw [Nat.add_mul, Nat.one_mul] at h1
    have hne : x ≠ y := fun e => by rw [e] at h; omega
    exact ⟨⟨fun _ => .inl h, fun _ => by omega⟩, ⟨fun e => by omega, fun e => absurd e.1 hne⟩⟩
  · have e : x = y := UInt8.toNat_inj.1 h
    subst e
    exact ⟨⟨fun h => .inr ⟨rfl, by omega⟩, fun h => by rcases h with h | h <;> omega⟩, ⟨fun h => ⟨rfl, by omega⟩, fun h => by omega⟩⟩
  · have h1 : (y.toNat + 1) * m ≤ x.toNat * m := Nat.mul_le_mul_right _ h
    rw [Nat.add_mul, Nat.one_mul] at h1
    have hne : x ≠ y := fun e => by rw [e] at h; omega
    exact ⟨⟨fun _ => by omega, fun e => by rcases e with e | e; omega; exact absurd e.1 hne⟩, ⟨fun e => by omega, fun e => absurd e.1 hne⟩⟩
theorem bigL_inj : ∀ {a b : List UInt8}, a.length = b.length → bigL a = bigL b → a = b
  | [], [], _, _ => rfl
  | x :: a, y :: b, hl, h => by
    have hl' : a.length = b.length := by simpa using hl
    simp only [bigL, hl'] at h
    obtain ⟨rfl, h2⟩ := (num_step x y _ _ _ (hl' ▸ bigL_lt a) (bigL_lt b)).2.1 h
    rw [bigL_inj hl' h2]
theorem ltL_num : ∀ {a b : List UInt8}, a.length = b.length → (ltL a b = true ↔ bigL a < bigL b)
  | [], [], _ => by simp [ltL, bigL]
  | x :: a, y :: b, hl => by
    have hl' : a.length = b.length := by simpa using hl
    have h := (num_step x y _ _ _ (hl' ▸ bigL_lt a) (bigL_lt b)).1
    simp only [ltL, bigL, hl', h]
    by_cases e : x = y
    · subst e; simp [ltL_num hl']
    · simp [e, UInt8.lt_iff_toNat_lt]
def Pt.num (p : Pt) : Nat := bigL p.tx.l
theorem Pt.num_tx {p q : Pt} : p.num = q.num ↔ p.tx = q.tx := by
  constructor
  · intro h
    have h := bigL_inj (a := p.tx.l) (b := q.tx.l) rfl h
    obtain ⟨⟨_, _, _, _, _, _, _, _⟩, _⟩ := p
    obtain ⟨⟨_, _, _, _, _, _, _, _⟩, _⟩ := q
    simp only [H8.l, List.cons.injEq, and_true] at h
    obtain ⟨rfl, rfl, rfl, rfl, rfl, rfl, rfl, rfl⟩ := h
    rfl
  · intro h; simp only [Pt.num, h]
theorem ltPt_num (p q : Pt) : ltPt p q = true ↔ p.num < q.num ∨ (p.num = q.num ∧ p.no.toInt < q.no.toInt) := by
  unfold ltPt
  simp only [Bool.or_eq_true, Bool.and_eq_true, decide_eq_true_eq, ltL_num (a := p.tx.l) (b := q.tx.l) rfl, Pt.num_tx]
  rfl
theorem ltPt_false (p q : Pt) : ltPt p q = false ↔ ¬ (p.num < q.num ∨ (p.num = q.num ∧ p.no.toInt < q.no.toInt)) := by
  rw [← ltPt_num]; simp
theorem ltPt_swo : SWO ltPt where
  irrefl x := by rw [ltPt_false]; omega
  trans x y z h1 h2 := by rw [ltPt_num] at *; omega
  ntrans x y z h1 h2 := by rw [ltPt_false] at *; omega
theorem Pt.eq_of {p q : Pt} (h1 : p.num = q.num) (h2 : p.no.toInt = q.no.toInt) : p = q := by
  have h1 := Pt.num_tx.1 h1
  have h2 := Int64.toInt_inj.1 h2
  obtain ⟨_, _⟩ := p
  obtain ⟨_, _⟩ := q
  subst h1 h2
  rfl
theorem ltPt_total (x y : Pt) (h1 : ltPt x y = false) (h2 : ltPt y x = false) : x = y := by
  rw [ltPt_false] at *
  exact Pt.eq_of (by omega) (by omega)
def sortPts (l : List Pt) : List Pt := l.mergeSort fun x y => !ltPt y x
theorem lePt_trans (a b c : Pt) (h1 : (!ltPt b a) = true) (h2 : (!ltPt c b) = true) : (!ltPt c a) = true := by
  simp only [Bool.not_eq_true', ltPt_false] at *; omega
theorem lePt_total (a b : Pt) : ((!ltPt b a) || (!ltPt a b)) = true := by
  simp only [Bool.or_eq_true, Bool.not_eq_true', ltPt_false]; omega
theorem sortPts_sorted (l : List Pt) : (sortPts l).Pairwise fun x y => (!ltPt y x) = true := List.pairwise_mergeSort lePt_trans lePt_total l
theorem sortPts_perm (l : List Pt) : (sortPts l).Perm l := List.mergeSort_perm l _
theorem sorted_one {l l' : List Pt} (h : l.Perm l') (h1 : l.Pairwise fun x y => (!ltPt y x) = true) (h2 : l'.Pairwise fun x y => (!ltPt y x) = true) : l = l' := by
  refine List.Perm.eq_of_pairwise (le := fun x y => (!ltPt y x) = true) (fun a b _ _ h1 h2 => ?_) h1 h2 h
  simp only [Bool.not_eq_true'] at h1 h2
  exact ltPt_total a b h2 h1
theorem sortPts_of_perm {l l' : List Pt} (h : l.Perm l') : sortPts l = sortPts l' :=
  sorted_one (((sortPts_perm l).trans h).trans (sortPts_perm l').symm) (sortPts_sorted l) (sortPts_sorted l')
end Go.Proofs.YtmoohekgheoliaaGreatDoor
