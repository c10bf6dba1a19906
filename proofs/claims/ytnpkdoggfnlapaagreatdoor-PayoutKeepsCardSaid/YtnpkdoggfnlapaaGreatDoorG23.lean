/- Parts Bf Bg Bh Bi Bj Bk. -/
import Derived.Test.YtnpkdoggfnlapaaGreatDoorG22
import Derived.Test.YtnpkdoggfnlapaaGreatDoorG20
import Derived.Test.YtnpkdoggfnlapaaGreatDoorG12
set_option linter.unusedSimpArgs false
set_option linter.unusedVariables false
namespace Go.Proofs.YtnpkdoggfnlapaaGreatDoor
set_option maxRecDepth 100000
open Go.Sx
theorem certOK_parts {c : CertM} (h : certOK c = true) : c.sigs.all sgdOK = true ∧ ((0 ≤ c.side ∧ c.side ≤ 7) ∧ (0 ≤ c.ep ∧ c.ep ≤ 400) ∧ (0 ≤ c.qual ∧ c.qual ≤ 2147483647)) ∧ outsOK c.outs = true ∧ (1 ≤ (c.sigs.length : Int) ∧ (c.sigs.length : Int) ≤ 5) := by
  simp only [certOK, certN, withinB, Bool.and_eq_true, decide_eq_true_eq] at h
  exact h
theorem certOK_bare {c : CertM} (h : certOK c = true) : certOK (bareCert c) = true := by
  obtain ⟨-, h2, h3, -⟩ := certOK_parts h
  simp only [certOK, certN, withinB, Bool.and_eq_true, decide_eq_true_eq]
  refine ⟨?_, h2, h3, ?_, ?_⟩
  · show [default].all sgdOK = true
    decide
  · show (1 : Int) ≤ ((1 : Nat) : Int)
    decide
  · show ((1 : Nat) : Int) ≤ 5
    decide
def checkC (L : List SideM) (c : CertM) (h : Int) (fin : H8) : Int :=
  if certOK c = false then 4
  else if (L.length : Int) ≤ c.side then 8
  else if fitsX (L.getD c.side.toNat default) c h fin = 0 then (if quorB (L.getD c.side.toNat default).par (certMsg c) c.sigs = true then 0 else 11)
  else fitsX (L.getD c.side.toNat default) c h fin
def ckSt (L : List SideM) (c : CertM) (h : Int) (fin m : H8) (x : SideM) : St :=
  ⟨[some (XV.sv (.ptr 0 0 0 0)), none, some (XV.int .i64 h), none, none, some (XV.sv (.ptr 6 0 0 0)), none, some (XV.sv (.ptr 7 0 0 0)), none, some (XV.sv (.ptr 8 0 0 0)), some (XV.bool true), some (XV.sv (.ptr 9 0 0 0))] ++ List.replicate 42 none,
   [(0, .abs (pReg L)), (1, .ro 9 c.outs.length (outsF c.outs)), (2, .ro 282 c.sigs.length (sgdsF c.sigs)), (5, .ext stepsP), (6, .cells 43 (certCells c (.slc 1 9 0 c.outs.length) (.slc 2 282 0 c.sigs.length))), (7, .cells 29 (fin.cells.map .raw)), (8, .cells 29 (m.cells.map .raw)), (9, .cells 68 (sideSlc x 10 11 12 13)), (10, .vec 29 8 x.par.keys.length (keysF x.par.keys)), (11, .vec 59 9 x.cert.outs.length (outsF x.cert.outs)), (12, .vec 192 282 x.cert.sigs.length (sgdsF x.cert.sigs)), (13, .vec 3 1 x.used.length (intsF x.used))], 14⟩
set_option maxHeartbeats 8000000 in
theorem ccheck_can (L : List SideM) (c : CertM) (h : Int) (fin : H8) (hL : ∀ i, i < L.length → (L.getD i default).Sized) (hl : L.length ≤ 1000) (ho : c.outs.length ≤ 1000000) (hs : c.sigs.length ≤ 1000000) : Acts Tryz.prog 68 (.abs (pReg L)) (.abs (pReg L)) [.box c.ac, .plain (.one (.raw (.int .i64 h))), .plain fin.x] [stepsP] (XV.int .i64 (checkC L c h fin)) := by
  refine Acts.of Tryz.T_ok Tryz.func68 rfl _ _ _ _ _ rfl rfl rfl (fun C hC => ?_)
  (replace hC : C.n0 = 6 := hC; change Tri _ _ _ ⟨_, _, 6⟩ _)
  have hmay := mayCert_can c (by omega) (by omega)
  have hmsg := certMsg_can c ho
  obtain ⟨m, hm⟩ : ∃ m, certMsg c = m := ⟨_, rfl⟩
  have hchk : checkC L c h fin = if certOK c = false then 4 else if (L.length : Int) ≤ c.side then 8 else if fitsX (L.getD c.side.toNat default) c h fin = 0 then (if quorB (L.getD c.side.toNat default).par m c.sigs = true then 0 else 11) else fitsX (L.getD c.side.toNat default) c h fin := by rw [checkC, hm]
  rw [hm] at hmsg
  rw [hchk]
  cases hb : certOK c with
  | false =>
    rw [hb] at hmay
    rw [if_pos rfl]
    obtain ⟨ob, hob⟩ : ∃ ob, certOK (bareCert c) = ob := ⟨_, rfl⟩
    rw [hob] at hmsg
    cases ob with
    | false =>
      refine Tri.of Tryz.mixed Tryz.T_ok ?_
      (refine xB ?_)
      (apply wP; exact (call_op rfl (entersB_of Tryz.func120 (by kernel_rfl)) rfl (hmsg.at [1, 2, 5] ⟨lend_cert (c := c) (lend_ro0 rfl rfl) (lend_ro0 rfl rfl), trivial⟩ ⟨lend_ext (c := 5) rfl rfl, trivial⟩)); refine xZ ?_)
      exact wD (Ends.shutN (.inr rfl) (Ent.refl _) rfl rfl rfl)
    | true =>
      refine Tri.of Tryz.mixed Tryz.T_ok ?_
      (refine xB ?_)
      (apply wP; exact (call_op rfl (entersB_of Tryz.func120 (by kernel_rfl)) rfl (hmsg.at [1, 2, 5] ⟨lend_cert (c := c) (lend_ro0 rfl rfl) (lend_ro0 rfl rfl), trivial⟩ ⟨lend_ext (c := 5) rfl rfl, trivial⟩)); refine xZ ?_)
      (apply wP; exact (call_op rfl (entersB_of Tryz.func82 (by kernel_rfl)) rfl (hmay.at [1, 2] ⟨lend_tx (t := certTx c) (lend_nil _ _) (lend_nil _ _) (lend_nil _ _) (lend_nil _ _) (lend_ro0 rfl rfl) (lend_ro0 rfl rfl), trivial⟩ trivial)); refine xZ ?_)
      exact wD (Ends.shutN (.inr rfl) (Ent.refl _) rfl rfl rfl)
  | true =>
    obtain ⟨-, ⟨⟨s1, s2⟩, -, -⟩, -, -⟩ := certOK_parts hb
    rw [hb] at hmay
    rw [certOK_bare hb] at hmsg
    rw [if_neg (by simp)]
    (refine Tri.cut 3 Tryz.mixed Tryz.T_ok ?_; refine xZ ?_)
    (apply wP; exact (call_op rfl (entersB_of Tryz.func120 (by kernel_rfl)) rfl (hmsg.at [1, 2, 5] ⟨lend_cert (c := c) (lend_ro0 rfl rfl) (lend_ro0 rfl rfl), trivial⟩ ⟨lend_ext (c := 5) rfl rfl, trivial⟩)); refine xZ ?_)
    (apply wP; exact (call_op rfl (entersB_of Tryz.func82 (by kernel_rfl)) rfl (hmay.at [1, 2] ⟨lend_tx (t := certTx c) (lend_nil _ _) (lend_nil _ _) (lend_nil _ _) (lend_nil _ _) (lend_ro0 rfl rfl) (lend_ro0 rfl rfl), trivial⟩ trivial)); refine xZ ?_)
    refine wD <| cutG <| ?_
    by_cases h8 : (L.length : Int) ≤ c.side
    · rw [if_pos h8]
      have ho := side_out L c.side (by rw [inB, decide_eq_false (show ¬ c.side < (L.length : Int) by omega), Bool.and_false])
      refine Tri.of Tryz.mixed Tryz.T_ok ?_
      (refine xB ?_)
      (apply wP; exact (call_op rfl (entersB_of Tryz.func22 (by kernel_rfl)) rfl (ho.at1 [] rfl rfl rfl ⟨lend_plain rfl, trivial⟩ trivial)); refine xZ ?_)
      exact wD (Ends.shutN (.inr rfl) (Ent.refl _) rfl rfl rfl)
    rw [if_neg h8]
    have hi : c.side.toNat < L.length := by omega
    have hz := hL _ hi
    have hin := side_in L c.side.toNat hi hz
    rw [Int.toNat_of_nonneg s1] at hin
    generalize L.getD c.side.toNat default = x at hin hz ⊢
    (refine Tri.cut 1 Tryz.mixed Tryz.T_ok ?_; refine xZ ?_)
    (apply wP; exact (call_op rfl (entersB_of Tryz.func22 (by kernel_rfl)) rfl (hin.at1 [] rfl rfl rfl ⟨lend_plain rfl, trivial⟩ trivial)); refine xZ ?_)
    refine wD <| cutG <| ?_
    refine Tri.ent (Ent.unpack (c := 32) (l := sideRows x) rfl) <| Tri.ent (S' := ckSt L c h fin m x) ?_ ?_
    · unfold ckSt
      ((try dsimp only); refine Ent.renC [0, 1, 2, 3, 4, 5, 6, 7, 14, 36, 39, 40, 41, 42] hC ?_ ?_ <;> repeat' (first | exact trivial | exact rfl | exact ⟨_, rfl, rfl, rfl, Nat.le_refl _, fun _ _ => rfl⟩ | exact ⟨_, rfl, rfl, rfl, fun _ _ => rfl⟩ | exact ⟨_, rfl, rfl, rfl⟩ | exact ⟨_, rfl, rfl⟩ | refine ⟨_, rfl, rfl, rfl, by omega, fun k hk => ?_⟩ | refine ⟨?_, ?_⟩ | fail))
    unfold ckSt
    have hf := fits_can x c h fin ho
    have hq := quor_can x.par m c.sigs (by have := hz.keys; omega) hs
    obtain ⟨fx, hfx⟩ : ∃ fx, fitsX x c h fin = fx := ⟨_, rfl⟩
    obtain ⟨qb, hqb⟩ : ∃ qb, quorB x.par m c.sigs = qb := ⟨_, rfl⟩
    rw [hfx] at hf ⊢
    rw [hqb] at hq ⊢
    refine Tri.of Tryz.mixed Tryz.T_ok ?_
    (refine xB ?_)
    (apply wP; exact (call_op rfl (entersB_of Tryz.func121 (by kernel_rfl)) rfl (hf.at [10, 11, 12, 13, 1, 2] ⟨lend_side (x := x) (lend_vecN (lo := 0) rfl rfl rfl (Nat.le_of_eq (Nat.zero_add _)) (fun i _ => by rw [Nat.zero_add])) (lend_vecN (lo := 0) rfl rfl rfl (Nat.le_of_eq (Nat.zero_add _)) (fun i _ => by rw [Nat.zero_add])) (lend_vecN (lo := 0) rfl rfl rfl (Nat.le_of_eq (Nat.zero_add _)) (fun i _ => by rw [Nat.zero_add])) (lend_vecN (lo := 0) rfl rfl rfl (Nat.le_of_eq (Nat.zero_add _)) (fun i _ => by rw [Nat.zero_add])), lend_cert (c := c) (lend_ro0 rfl rfl) (lend_ro0 rfl rfl), lend_plain rfl, lend_plain rfl, trivial⟩ trivial)); refine xZ ?_)
    refine wC (fun h1 => ?_) (fun h1 => ?_)
    · have h1' : fx ≠ 0 := by simpa using h1
      rw [if_neg h1']
      (refine xG ?_)
      exact wD (Ends.shutN (.inr rfl) (Ent.refl _) rfl rfl rfl)
    have h1' : fx = 0 := by simpa using h1
    rw [if_pos h1']
    (refine xG ?_)
    (apply wP; exact (call_op rfl (entersB_of Tryz.func122 (by kernel_rfl)) rfl (hq.at [10, 2, 5] ⟨lend_par (p := x.par) (lend_vecN (lo := 0) rfl rfl rfl (Nat.le_of_eq (Nat.zero_add _)) (fun i _ => by rw [Nat.zero_add])), lend_plain rfl, lend_ro0 rfl rfl, trivial⟩ ⟨lend_ext (c := 5) rfl rfl, trivial⟩)); refine xZ ?_)
    refine wC (fun h2 => ?_) (fun h2 => ?_)
    · have h2' : qb = false := by simpa using h2
      rw [h2', if_neg (by simp)]
      (refine xG ?_)
      exact wD (Ends.shutN (.inr rfl) (Ent.refl _) rfl rfl rfl)
    have h2' : qb = true := by simpa using h2
    rw [h2', if_pos rfl]
    (refine xG ?_)
    exact wD (Ends.shutN (.inr rfl) (Ent.refl _) rfl rfl rfl)
end Go.Proofs.YtnpkdoggfnlapaaGreatDoor
namespace Go.Proofs.YtnpkdoggfnlapaaGreatDoor
set_option maxRecDepth 100000
open Go.Sx
def waitX (x : SideM) (c : CertM) : SideM := { x with pend := true, cert := c }
def takeC (L : List SideM) (c : CertM) (h : Int) (fin : H8) : List SideM × Int :=
  if checkC L c h fin = 0 then (L.set c.side.toNat (waitX (L.getD c.side.toNat default) c), 0) else (L, checkC L c h fin)
theorem checkC_zero {L : List SideM} {c : CertM} {h : Int} {fin : H8} (h0 : checkC L c h fin = 0) : certOK c = true ∧ ¬ (L.length : Int) ≤ c.side ∧ fitsX (L.getD c.side.toNat default) c h fin = 0 ∧ quorB (L.getD c.side.toNat default).par (certMsg c) c.sigs = true := by
  unfold checkC at h0
  by_cases h1 : certOK c = false
  · rw [if_pos h1] at h0; exact absurd h0 (by decide)
  rw [if_neg h1] at h0
  by_cases h2 : (L.length : Int) ≤ c.side
  · rw [if_pos h2] at h0; exact absurd h0 (by decide)
  rw [if_neg h2] at h0
  by_cases h3 : fitsX (L.getD c.side.toNat default) c h fin = 0
  · rw [if_pos h3] at h0
    by_cases h4 : quorB (L.getD c.side.toNat default).par (certMsg c) c.sigs = true
    · exact ⟨by simpa using h1, h2, h3, h4⟩
    · rw [if_neg h4] at h0; exact absurd h0 (by decide)
  · rw [if_neg h3] at h0; exact absurd h0 h3
def tkcSt (L : List SideM) (c : CertM) (x : SideM) : St :=
  ⟨[some (XV.sv (.ptr 0 0 0 0)), none, none, none, none, some (XV.sv (.ptr 6 0 0 0)), none, none, none, none, some (XV.sv (.ptr 7 0 0 0))] ++ List.replicate 24 none,
   [(0, .abs (pReg L)), (1, .ro 9 c.outs.length (outsF c.outs)), (2, .ro 282 c.sigs.length (sgdsF c.sigs)), (5, .ext stepsP), (6, .cells 43 (certCells c (.slc 1 9 0 c.outs.length) (.slc 2 282 0 c.sigs.length))), (7, .cells 68 (sideSlc x 8 9 10 11)), (8, .vec 29 8 x.par.keys.length (keysF x.par.keys)), (9, .vec 59 9 x.cert.outs.length (outsF x.cert.outs)), (10, .vec 192 282 x.cert.sigs.length (sgdsF x.cert.sigs)), (11, .vec 3 1 x.used.length (intsF x.used))], 12⟩
set_option maxHeartbeats 8000000 in
theorem ctake_can (L : List SideM) (c : CertM) (h : Int) (fin : H8) (hL : ∀ i, i < L.length → (L.getD i default).Sized) (hl : L.length ≤ 1000) (ho : c.outs.length ≤ 1000000) (hs : c.sigs.length ≤ 1000000) : Acts Tryz.prog 31 (.abs (pReg L)) (.abs (pReg (takeC L c h fin).1)) [.box c.ac, .plain (.one (.raw (.int .i64 h))), .plain fin.x] [stepsP] (XV.int .i64 (takeC L c h fin).2) := by
  refine Acts.of Tryz.T_ok Tryz.func31 rfl _ _ _ _ _ rfl rfl rfl (fun C hC => ?_)
  (replace hC : C.n0 = 6 := hC; change Tri _ _ _ ⟨_, _, 6⟩ _)
  have hchk := ccheck_can L c h fin hL hl ho hs
  obtain ⟨e, he⟩ : ∃ e, checkC L c h fin = e := ⟨_, rfl⟩
  have ht : takeC L c h fin = if e = 0 then (L.set c.side.toNat (waitX (L.getD c.side.toNat default) c), 0) else (L, e) := by rw [takeC, he]
  rw [ht]
  rw [he] at hchk
  (refine Tri.cut 3 Tryz.mixed Tryz.T_ok ?_; refine xZ ?_)
  (apply wP; exact (call_op rfl (entersB_of Tryz.func68 (by kernel_rfl)) rfl (hchk.at [1, 2, 5] rfl rfl rfl ⟨lend_cert (c := c) (lend_ro0 rfl rfl) (lend_ro0 rfl rfl), lend_plain rfl, lend_plain rfl, trivial⟩ ⟨lend_ext (c := 5) rfl rfl, trivial⟩)); refine xZ ?_)
  refine wC (fun h1 => ?_) (fun h1 => ?_)
  · have h1' : e ≠ 0 := by simpa using h1
    rw [if_neg h1']
    (refine xG ?_)
    exact wD <| cutR <| Ends.shutN (.inr rfl) (Ent.refl _) rfl rfl rfl
  have h1' : e = 0 := by simpa using h1
  subst h1'
  rw [if_pos rfl]
  obtain ⟨hb, h8, -, -⟩ := checkC_zero he
  obtain ⟨-, ⟨⟨s1, s2⟩, -, -⟩, -, -⟩ := certOK_parts hb
  have hi : c.side.toNat < L.length := by omega
  have hz := hL _ hi
  have hin := side_in L c.side.toNat hi hz
  have hset := regSet_can L c.side.toNat hi (waitX (L.getD c.side.toNat default) c)
  rw [Int.toNat_of_nonneg s1] at hin hset
  generalize L.getD c.side.toNat default = x at hin hz hset ⊢
  replace hset := hset ⟨hz.keys, ho, hs, hz.used⟩
  (refine xG ?_)
  (apply wP; exact (call_op rfl (entersB_of Tryz.func22 (by kernel_rfl)) rfl (hin.at1 [] rfl rfl rfl ⟨lend_plain rfl, trivial⟩ trivial)); refine xZ ?_)
  refine wD <| cutG <| Tri.ent (Ent.unpack (c := 20) (l := sideRows x) rfl) <| Tri.ent (S' := tkcSt L c x) ?_ ?_
  · unfold tkcSt
    ((try dsimp only); refine Ent.renC [0, 1, 2, 3, 4, 5, 6, 24, 27, 28, 29, 30] hC ?_ ?_ <;> repeat' (first | exact trivial | exact rfl | exact ⟨_, rfl, rfl, rfl, Nat.le_refl _, fun _ _ => rfl⟩ | exact ⟨_, rfl, rfl, rfl, fun _ _ => rfl⟩ | exact ⟨_, rfl, rfl, rfl⟩ | exact ⟨_, rfl, rfl⟩ | refine ⟨_, rfl, rfl, rfl, by omega, fun k hk => ?_⟩ | refine ⟨?_, ?_⟩ | fail))
  unfold tkcSt
  refine Tri.of Tryz.mixed Tryz.T_ok ?_
  (refine xB ?_)
  (apply wP; exact (call_op rfl (entersB_of Tryz.func49 (by kernel_rfl)) rfl (hset.at [8, 1, 2, 11] rfl rfl rfl ⟨lend_plain rfl, lend_side (x := waitX x c) (lend_vecN (lo := 0) rfl rfl rfl (Nat.le_of_eq (Nat.zero_add _)) (fun i _ => by rw [Nat.zero_add]; rfl)) (lend_ro0 rfl rfl) (lend_ro0 rfl rfl) (lend_vecN (lo := 0) rfl rfl rfl (Nat.le_of_eq (Nat.zero_add _)) (fun i _ => by rw [Nat.zero_add]; rfl)), trivial⟩ trivial)); refine xZ ?_)
  exact wD (Ends.shutN (.inr rfl) (Ent.refl _) rfl rfl rfl)
end Go.Proofs.YtnpkdoggfnlapaaGreatDoor
namespace Go.Proofs.YtnpkdoggfnlapaaGreatDoor
set_option maxRecDepth 100000
open Go.Sx
def paidH (s e : Int) (fin : H8) : H8 := dig 119 [numL s 1, numL e 4, fin.l]
theorem short3 (p : UInt8) (a b c : List UInt8) (h : a.length + b.length + c.length ≤ 900000000) : Short (encAll p [a, b, c]) := by
  show (encN p [a, b, c] 3).length ≤ _
  rw [encN_length, encN_length, encN_length]
  show [p].length + 4 + a.length + 4 + b.length + 4 + c.length ≤ _
  simp; omega
theorem num1 (n : Int) : numL n 1 = [byteI (IntKind.u8.wrap n)] := by
  show [byteI (IntKind.u8.wrap (shrI .i64 n ((8 * 0 : Nat) : Int)))] = _
  rw [show ((8 * 0 : Nat) : Int) = 0 from rfl, shr0]
theorem num4 (n : Int) : numL n 4 = [byteI (IntKind.u8.wrap n), byteI (IntKind.u8.wrap (shrI .i64 n 8)), byteI (IntKind.u8.wrap (shrI .i64 n 16)), byteI (IntKind.u8.wrap (shrI .i64 n 24))] := by
  show [byteI (IntKind.u8.wrap (shrI .i64 n ((8 * 0 : Nat) : Int))), byteI (IntKind.u8.wrap (shrI .i64 n ((8 * 1 : Nat) : Int))), byteI (IntKind.u8.wrap (shrI .i64 n ((8 * 2 : Nat) : Int))), byteI (IntKind.u8.wrap (shrI .i64 n ((8 * 3 : Nat) : Int)))] = _
  rw [show ((8 * 0 : Nat) : Int) = 0 from rfl, shr0]
  rfl
set_option maxHeartbeats 2000000 in
theorem paidid_can (s e : Int) (fin : H8) : Reads Tryz.prog 124 [.plain (.one (.raw (.int .i64 s))), .plain (.one (.raw (.int .i64 e))), .plain fin.x] [stepsP] (hashX (paidH s e fin)) := by
  rw [paidH, num1, num4]
  refine Reads.of Tryz.T_ok Tryz.func124 rfl _ _ _ rfl (aggs_ok _ _) (fun C hC => ?_)
  (replace hC : C.n0 = 4 := hC; change Tri _ _ _ ⟨_, _, 4⟩ _)
  refine Tri.of Tryz.mixed Tryz.T_ok ?_
  (refine xB ?_)
  (refine wP _ _ (cellsNew_op Tryz.T_ok rfl rfl rfl) ?_; refine xZ ?_)
  (apply wP; exact (call_op rfl (entersB_of Tryz.func146 (by kernel_rfl)) rfl ((of_can 119 [[byteI (IntKind.u8.wrap s)], [byteI (IntKind.u8.wrap e), byteI (IntKind.u8.wrap (shrI .i64 e 8)), byteI (IntKind.u8.wrap (shrI .i64 e 16)), byteI (IntKind.u8.wrap (shrI .i64 e 24))], fin.l] (short3 _ _ _ _ (by simp [H8.l_len]))).at [22, 8, 20, 4, 3] ⟨lend_plain rfl, lend_parts [[byteI (IntKind.u8.wrap s)], [byteI (IntKind.u8.wrap e), byteI (IntKind.u8.wrap (shrI .i64 e 8)), byteI (IntKind.u8.wrap (shrI .i64 e 16)), byteI (IntKind.u8.wrap (shrI .i64 e 24))], fin.l] rfl rfl rfl ⟨lend_vec (lo := 0) rfl rfl (Nat.le_refl _) (row1 (u8_byteI _).symm), lend_vec (lo := 0) rfl rfl (Nat.le_refl _) (row4 (u8_byteI _).symm (u8_byteI _).symm (u8_byteI _).symm (u8_byteI _).symm), lend_sla rfl rfl (fun _ _ => rfl) rfl, trivial⟩, trivial⟩ ⟨lend_ext (c := 3) rfl rfl, trivial⟩)); refine xZ ?_)
  exact wD (Ends.plain (.inr rfl) rfl rfl)
end Go.Proofs.YtnpkdoggfnlapaaGreatDoor
namespace Go.Proofs.YtnpkdoggfnlapaaGreatDoor
set_option maxRecDepth 100000
open Go.Sx
def certSum (c : CertM) : Int := (sumM 0 (outAmts c.outs c.outs.length)).getD 0
def payX (x : SideM) : SideM := { x with bal := wr (x.bal - certSum x.cert), mat := wr (x.mat + certSum x.cert), root := x.cert.root, pend := false, cert := cert0 }
def payGo (S : USet) (x : SideM) (i : Int) (h : Int64) : USet × Int := outsGo (paidH i x.cert.ep x.cert.fin) h false S 0 x.cert.outs
def payOut (S : USet) (x : SideM) (i : Int) (h : Int64) (a b : Nat) : XV :=
  if (payGo S x i h).2 = 0 then .tup [.agg (sideCells (payX x) (.slc a 8 0 x.par.keys.length) nilV nilV (.slc b 1 0 x.used.length)), .one (.raw (.int .i64 0))]
  else .tup [.agg (sideCells side0 nilV nilV nilV nilV), .one (.raw (.int .i64 (payGo S x i h).2))]
def payM (S : USet) (x : SideM) : List Chunk := [.abs (usetP S), .vec 29 8 x.par.keys.length (keysF x.par.keys), .vec 59 9 x.cert.outs.length (outsF x.cert.outs), .vec 192 282 x.cert.sigs.length (sgdsF x.cert.sigs), .vec 3 1 x.used.length (intsF x.used)]
theorem payOut_ok (S : USet) (x : SideM) (i : Int) (h : Int64) : (payOut S x i h 1 4).ok (fun i => Nat.blt i 6) = true := by
  unfold payOut
  by_cases h0 : (payGo S x i h).2 = 0
  · rw [if_pos h0]; rfl
  · rw [if_neg h0]; rfl
theorem payOut_ren (S : USet) (x : SideM) (i : Int) (h : Int64) (ρ : Nat → Nat) : (payOut S x i h 1 4).ren ρ = payOut S x i h (ρ 1) (ρ 4) := by
  unfold payOut
  by_cases h0 : (payGo S x i h).2 = 0
  · rw [if_pos h0, if_pos h0]; rfl
  · rw [if_neg h0, if_neg h0]; rfl
set_option maxHeartbeats 8000000 in
theorem pay_spec (S : USet) (x : SideM) (i : Int) (h : Int64) (hx : x.cert.outs.length ≤ 1000) (hS : S.steps.length < 900000) {M : Mem} {u k o s us e d : Nat}
    (hids : (Nat.beq u k || Nat.beq u o || Nat.beq u s || Nat.beq u us || Nat.beq k o || Nat.beq k s || Nat.beq k us || Nat.beq o s || Nat.beq o us || Nat.beq s us) = false)
    (hd : (Nat.beq d u || Nat.beq d k || Nat.beq d o || Nat.beq d s || Nat.beq d us || Nat.beq d e) = false)
    (hg : Gets M [u, k, o, s, us] (payM S x)) (hg' : Gets M [e] [.ext stepsP]) :
    CallSpec Tryz.prog 71 [.agg (sideSlc x k o s us), .one (.raw (.int .i64 i)), .one (.ptr u 0 0 0), .one (.raw (.int .i64 h.toInt))] M d { v := payOut S x i h k us, upd := tieM [u, k, o, s, us] (payM (payGo S x i h).1 x), wr := [u, k, o, s, us] } [u, k, o, s, us, e] := by
  simp only [Bool.or_eq_false_iff, nbeq, decide_eq_false_iff_not] at hids hd
  obtain ⟨⟨⟨⟨⟨⟨⟨⟨⟨d1, d2⟩, d3⟩, d4⟩, d5⟩, d6⟩, d7⟩, d8⟩, d9⟩, d10⟩ := hids
  obtain ⟨⟨⟨⟨⟨f1, f2⟩, f3⟩, f4⟩, f5⟩, f6⟩ := hd
  refine spec_owned (Xl := [.agg (sideSlc x 1 2 3 4), .one (.raw (.int .i64 i)), .one (.ptr 0 0 0 0), .one (.raw (.int .i64 h.toInt))]) (X := payOut S x i h 1 4) (chs := payM S x) (chs' := payM (payGo S x i h).1 x) (es := [.ext stepsP]) (ids := [u, k, o, s, us]) (rids := [e]) (k1 := 5) (n0 := 6) (M0 := [(0, .abs (usetP S)), (1, .vec 29 8 x.par.keys.length (keysF x.par.keys)), (2, .vec 59 9 x.cert.outs.length (outsF x.cert.outs)), (3, .vec 192 282 x.cert.sigs.length (sgdsF x.cert.sigs)), (4, .vec 3 1 x.used.length (intsF x.used)), (5, .ext stepsP)]) Tryz.T_ok Tryz.func71 rfl rfl rfl rfl (by simp [*]) (by simp [*]) rfl (payOut_ok S x i h) rfl rfl rfl hg hg' (fun C hC => ?_) rfl (payOut_ren S x i h (fun i => ([u, k, o, s, us] ++ [e])[i]?.getD d)).symm rfl rfl
  have hout := outs_can S (paidH i x.cert.ep x.cert.fin) x.cert.outs h false hx hS
  have hpid := paidid_can i x.cert.ep x.cert.fin
  have hsum := csum_can x.cert (by omega)
  have hpo : payOut S x i h 1 4 = if (outsGo (paidH i x.cert.ep x.cert.fin) h false S 0 x.cert.outs).2 = 0 then .tup [.agg (sideCells (payX x) (.slc 1 8 0 x.par.keys.length) nilV nilV (.slc 4 1 0 x.used.length)), .one (.raw (.int .i64 0))] else .tup [.agg (sideCells side0 nilV nilV nilV nilV), .one (.raw (.int .i64 (outsGo (paidH i x.cert.ep x.cert.fin) h false S 0 x.cert.outs).2))] := rfl
  rw [hpo, payGo]
  clear hpo
  unfold payM sideSlc
  obtain ⟨⟨S', er⟩, ho⟩ : ∃ p, outsGo (paidH i x.cert.ep x.cert.fin) h false S 0 x.cert.outs = p := ⟨_, rfl⟩
  rw [ho] at hout ⊢
  dsimp only at hout ⊢
  unfold sumX at hsum
  have hcs : certSum x.cert = (sumM 0 (outAmts x.cert.outs x.cert.outs.length)).getD 0 := rfl
  have hpx : payX x = { x with bal := wr (x.bal - certSum x.cert), mat := wr (x.mat + certSum x.cert), root := x.cert.root, pend := false, cert := cert0 } := rfl
  rw [← hcs] at hsum
  obtain ⟨n, hn⟩ : ∃ n, certSum x.cert = n := ⟨_, rfl⟩
  rw [hn] at hsum hpx
  rw [hpx]
  (refine Tri.cut 4 Tryz.mixed Tryz.T_ok ?_; refine xZ ?_)
  (apply wP; exact (call_op rfl (entersB_of Tryz.func124 (by kernel_rfl)) rfl (hpid.at [5] ⟨lend_plain rfl, lend_plain rfl, lend_plain rfl, trivial⟩ ⟨lend_ext (c := 5) rfl rfl, trivial⟩)); refine xZ ?_)
  (apply wP; exact (call_op rfl (entersB_of Tryz.func52 (by kernel_rfl)) rfl (hout.at [2] rfl rfl rfl ⟨lend_plain rfl, lend_vecN (lo := 0) rfl rfl rfl (Nat.le_of_eq (Nat.zero_add _)) (fun i _ => by rw [Nat.zero_add]), lend_plain rfl, lend_plain rfl, trivial⟩ trivial)); refine xZ ?_)
  refine wC (fun h1 => ?_) (fun h1 => ?_)
  · have h1' : er ≠ 0 := by simpa using h1
    rw [if_neg h1']
    (refine xG ?_)
    exact wD <| cutR <| Ends.owned (.inr rfl) (Ent.refl _) rfl rfl ⟨rfl, rfl, rfl, rfl, rfl, trivial⟩
  · have h1' : er = 0 := by simpa using h1
    rw [if_pos h1']
    (refine xG ?_)
    (apply wP; exact (call_op rfl (entersB_of Tryz.func125 (by kernel_rfl)) rfl (hsum.at [2, 3] ⟨lend_cert (c := x.cert) (lend_vecN (lo := 0) rfl rfl rfl (Nat.le_of_eq (Nat.zero_add _)) (fun i _ => by rw [Nat.zero_add])) (lend_vecN (lo := 0) rfl rfl rfl (Nat.le_of_eq (Nat.zero_add _)) (fun i _ => by rw [Nat.zero_add])), trivial⟩ trivial)); refine xZ ?_)
    refine wD <| cutG <| Tri.of Tryz.mixed Tryz.T_ok ?_
    (refine xB ?_)
    exact wD (Ends.owned (.inr rfl) (Ent.refl _) rfl rfl ⟨rfl, rfl, rfl, rfl, rfl, trivial⟩)
end Go.Proofs.YtnpkdoggfnlapaaGreatDoor
namespace Go.Proofs.YtnpkdoggfnlapaaGreatDoor
set_option maxRecDepth 100000
open Go.Sx
def ceaseX (x : SideM) (h : Int) : SideM := { x with ceased := true, hgt := h }
def endOne (h : Int64) (i : Nat) (L : List SideM) (S : USet) (x : SideM) : (List SideM × USet) × Int :=
  if (dueX x h.toInt).2 = false then ((L, S), 0)
  else if (x.pend && (x.cert.ep == (dueX x h.toInt).1)) = true then
    (if (payGo S x i h).2 = 0 then ((L.set i (payX x), (payGo S x i h).1), 0) else ((L, (payGo S x i h).1), (payGo S x i h).2))
  else ((L.set i (ceaseX x h.toInt), S), 0)
def endN (h : Int64) (L : List SideM) (S : USet) : Nat → (List SideM × USet) × Int
  | 0 => ((L, S), 0)
  | i + 1 => if (endN h L S i).2 = 0 then endOne h i (endN h L S i).1.1 (endN h L S i).1.2 ((endN h L S i).1.1.getD i default) else endN h L S i
def endE (h : Int64) (L : List SideM) (S : USet) : (List SideM × USet) × Int := endN h L S L.length
theorem outsGo_steps (id : H8) (h : Int64) (base : Bool) : ∀ (l : List OutM) (S : USet) (i : Nat), (outsGo id h base S i l).1.steps.length ≤ S.steps.length + l.length
  | [], S, i => Nat.le_refl _
  | o :: l, S, i => by
    rw [outsGo]
    by_cases h1 : S.has (ptAt id i) = true
    · rw [if_pos h1]; exact Nat.le_add_right _ _
    · rw [if_neg h1]
      by_cases h2 : S.okB (ptAt id i) ⟨o.to, o.amt, h, base⟩ = true
      · rw [if_pos h2]
        have h3 := outsGo_steps id h base l (S.add1 (ptAt id i) ⟨o.to, o.amt, h, base⟩) (i + 1)
        have h4 : (S.add1 (ptAt id i) ⟨o.to, o.amt, h, base⟩).steps.length = S.steps.length + 1 := by simp [USet.add1]
        simp only [List.length_cons]; omega
      · rw [if_neg h2]; exact Nat.le_add_right _ _
theorem endOne_len (h : Int64) (i : Nat) (L : List SideM) (S : USet) (x : SideM) : (endOne h i L S x).1.1.length = L.length := by
  unfold endOne
  split
  · rfl
  · split
    · split
      · exact List.length_set ..
      · rfl
    · exact List.length_set ..
theorem endOne_ne (h : Int64) {i j : Nat} (hj : j ≠ i) (L : List SideM) (S : USet) (x : SideM) : (endOne h i L S x).1.1.getD j default = L.getD j default := by
  have hs : ∀ y, (L.set i y).getD j default = L.getD j default := fun y => by rw [List.getD_eq_getElem?_getD, List.getD_eq_getElem?_getD, List.getElem?_set_ne (fun e => hj e.symm)]
  unfold endOne
  split
  · rfl
  · split
    · split
      · exact hs _
      · rfl
    · exact hs _
theorem endOne_steps (h : Int64) (i : Nat) (L : List SideM) (S : USet) {x : SideM} (hx : x.cert.outs.length ≤ 1000) : (endOne h i L S x).1.2.steps.length ≤ S.steps.length + 1000 := by
  have h1 := outsGo_steps (paidH i x.cert.ep x.cert.fin) h false x.cert.outs S 0
  have hp : payGo S x i h = outsGo (paidH i x.cert.ep x.cert.fin) h false S 0 x.cert.outs := rfl
  unfold endOne
  rw [hp]
  split
  · dsimp only; omega
  · split
    · split
      · dsimp only; omega
      · dsimp only; omega
    · dsimp only; omega
theorem endN_len (h : Int64) (L : List SideM) (S : USet) : ∀ i, (endN h L S i).1.1.length = L.length
  | 0 => rfl
  | i + 1 => by
    rw [endN]
    split
    · rw [endOne_len, endN_len h L S i]
    · exact endN_len h L S i
theorem endN_get (h : Int64) (L : List SideM) (S : USet) : ∀ i j, i ≤ j → (endN h L S i).1.1.getD j default = L.getD j default
  | 0, _, _ => rfl
  | i + 1, j, hj => by
    rw [endN]
    split
    · rw [endOne_ne h (by omega), endN_get h L S i j (by omega)]
    · exact endN_get h L S i j (by omega)
theorem endN_steps (h : Int64) (L : List SideM) (S : USet) (hL : ∀ i, i < L.length → (L.getD i default).cert.outs.length ≤ 1000) : ∀ i, i ≤ L.length → (endN h L S i).1.2.steps.length ≤ S.steps.length + 1000 * i
  | 0, _ => Nat.le_refl _
  | i + 1, hi => by
    have h1 := endN_steps h L S hL i (by omega)
    rw [endN]
    split
    · have h2 := endOne_steps h i (endN h L S i).1.1 (endN h L S i).1.2 (x := (endN h L S i).1.1.getD i default) (by rw [endN_get h L S i i (Nat.le_refl _)]; exact hL i (by omega))
      omega
    · omega
theorem endN_stuck (h : Int64) (L : List SideM) (S : USet) {i : Nat} (h0 : (endN h L S i).2 ≠ 0) : ∀ k, endN h L S (i + k) = endN h L S i
  | 0 => rfl
  | k + 1 => by
    rw [← Nat.add_assoc, endN, endN_stuck h L S h0 k, if_neg h0]
def endSt (n : Nat) (h : Int64) (L : List SideM) (S : USet) (i : Nat) : St :=
  ⟨[some (XV.sv (.ptr 0 0 0 0)), some (XV.sv (.ptr 1 0 0 0)), some (XV.int .i64 h.toInt)] ++ List.replicate 17 none ++ [some (XV.int .i64 n), some (XV.int .i64 i)] ++ List.replicate 46 none,
   [(0, .abs (pReg L)), (1, .abs (usetP S)), (3, .ext stepsP)], 4⟩
def endSt2 (n : Nat) (h : Int64) (L : List SideM) (S : USet) (i : Nat) (x : SideM) : St :=
  ⟨[some (XV.sv (.ptr 0 0 0 0)), some (XV.sv (.ptr 1 0 0 0)), some (XV.int .i64 h.toInt), none, none, none, none, some (XV.int .i64 i), some (XV.sv (.ptr 4 0 0 0))] ++ List.replicate 11 none ++ [some (XV.int .i64 n), some (XV.int .i64 i)] ++ List.replicate 46 none,
   [(0, .abs (pReg L)), (1, .abs (usetP S)), (3, .ext stepsP), (4, .cells 68 (sideSlc x 5 6 7 8)), (5, .vec 29 8 x.par.keys.length (keysF x.par.keys)), (6, .vec 59 9 x.cert.outs.length (outsF x.cert.outs)), (7, .vec 192 282 x.cert.sigs.length (sgdsF x.cert.sigs)), (8, .vec 3 1 x.used.length (intsF x.used))], 9⟩
section
variable (S : USet) (x : SideM) (i : Int) (h : Int64) (hx : x.cert.outs.length ≤ 1000) (hS : S.steps.length < 900000) {M : Mem} {u k o s us e d : Nat}
    (hids : (Nat.beq u k || Nat.beq u o || Nat.beq u s || Nat.beq u us || Nat.beq k o || Nat.beq k s || Nat.beq k us || Nat.beq o s || Nat.beq o us || Nat.beq s us) = false)
    (hd : (Nat.beq d u || Nat.beq d k || Nat.beq d o || Nat.beq d s || Nat.beq d us || Nat.beq d e) = false)
    (hg : Gets M [u, k, o, s, us] (payM S x)) (hg' : Gets M [e] [.ext stepsP])
include hx hS hids hd hg hg'
theorem pay_ok (h0 : (payGo S x i h).2 = 0) {S' : USet} (hS' : (payGo S x i h).1 = S') :
    CallSpec Tryz.prog 71 [.agg (sideSlc x k o s us), .one (.raw (.int .i64 i)), .one (.ptr u 0 0 0), .one (.raw (.int .i64 h.toInt))] M d { v := .tup [.agg (sideCells (payX x) (.slc k 8 0 x.par.keys.length) nilV nilV (.slc us 1 0 x.used.length)), .one (.raw (.int .i64 0))], upd := tieM [u, k, o, s, us] (payM S' x), wr := [u, k, o, s, us] } [u, k, o, s, us, e] := by
  have hp := pay_spec S x i h hx hS hids hd hg hg'
  rw [payOut, if_pos h0, hS'] at hp
  exact hp
theorem pay_bad {S' : USet} {er : Int} (hE : payGo S x i h = (S', er)) (h0 : er ≠ 0) :
    CallSpec Tryz.prog 71 [.agg (sideSlc x k o s us), .one (.raw (.int .i64 i)), .one (.ptr u 0 0 0), .one (.raw (.int .i64 h.toInt))] M d { v := .tup [.agg (sideCells side0 nilV nilV nilV nilV), .one (.raw (.int .i64 er))], upd := tieM [u, k, o, s, us] (payM S' x), wr := [u, k, o, s, us] } [u, k, o, s, us, e] := by
  have hp := pay_spec S x i h hx hS hids hd hg hg'
  rw [payOut, hE, if_neg h0] at hp
  exact hp
end
structure EndI (h : Int64) (L : List SideM) (S : USet) where
  i : Nat
  Li : List SideM
  Si : USet
  le : i ≤ L.length
  go : endN h L S i = ((Li, Si), 0)
set_option maxHeartbeats 8000000 in
theorem end_can (L : List SideM) (S : USet) (h : Int64) (hL : ∀ i, i < L.length → (L.getD i default).Sized) (hc : ∀ i, i < L.length → (L.getD i default).cert.outs.length ≤ 1000) (hl : L.length ≤ 100) (hS : S.steps.length < 700000) :
    Does Tryz.prog 34 [(.abs (pReg L), .abs (pReg (endE h L S).1.1)), (.abs (usetP S), .abs (usetP (endE h L S).1.2))] [.plain (.one (.raw (.int .i64 h.toInt)))] [stepsP] (XV.int .i64 (endE h L S).2) none := by
  refine Does.of Tryz.T_ok Tryz.func34 rfl _ _ _ _ _ rfl rfl rfl 0 (fun C hC => ?_)
  (replace hC : C.n0 = 4 := hC; change Tri _ _ _ ⟨_, _, 4⟩ _)
  (refine Tri.cut 2 Tryz.mixed Tryz.T_ok ?_; refine xZ ?_)
  refine wD <| cutG <| Tri.seq ?_
  (refine Tri.cut 1 Tryz.mixed Tryz.T_ok ?_; refine xZ ?_)
  (apply wP; exact (call_op rfl (entersB_of Tryz.func35 (by kernel_rfl)) rfl ((regLen_can L).at [] rfl rfl rfl trivial trivial)); refine xZ ?_)
  refine wD <| cutG <| Tri.block ?_
  refine Tri.loop (α := EndI h L S) (fun p => endSt L.length h p.Li p.Si p.i) (fun p => L.length - p.i) ⟨0, L, S, Nat.zero_le _, rfl⟩ ?_ ?_
  · unfold endSt
    ((try dsimp only); refine Ent.renC [0, 1, 2, 3] hC ?_ ?_ <;> repeat' (first | exact trivial | exact rfl | exact ⟨_, rfl, rfl, rfl, Nat.le_refl _, fun _ _ => rfl⟩ | exact ⟨_, rfl, rfl, rfl, fun _ _ => rfl⟩ | exact ⟨_, rfl, rfl, rfl⟩ | exact ⟨_, rfl, rfl⟩ | refine ⟨_, rfl, rfl, rfl, by omega, fun k hk => ?_⟩ | refine ⟨?_, ?_⟩ | fail))
  rintro ⟨i, Li, Si, hi, he⟩
  dsimp only
  unfold endSt
  have hlen := endN_len h L S i
  have hget := endN_get h L S i i (Nat.le_refl _)
  have hst := endN_steps h L S hc i hi
  have hnext : endN h L S (i + 1) = endOne h i (endN h L S i).1.1 (endN h L S i).1.2 ((endN h L S i).1.1.getD i default) := by rw [endN, if_pos (by rw [he])]
  have hfin : (endN h L S (i + 1)).2 ≠ 0 → i < L.length → endE h L S = endN h L S (i + 1) := fun h1 h2 => by
    rw [endE, show L.length = i + 1 + (L.length - (i + 1)) by omega, endN_stuck h L S h1]
  rw [hget] at hnext
  rw [he] at hlen hst hnext hget
  dsimp only at hlen hst hnext hget
  obtain ⟨n, hn⟩ : ∃ n, L.length = n := ⟨_, rfl⟩
  rw [hn] at hlen ⊢
  (refine Tri.cut 2 Tryz.mixed Tryz.T_ok ?_; refine xZ ?_)
  refine wC (fun h1 => ?_) (fun h1 => ?_)
  · (refine xG ?_)
    have h1' : i < n := xW
    have hw : IntKind.i64.wrap ((i : Int) + 1) = ((i + 1 : Nat) : Int) := xW
    have hz := hL i (by omega)
    have hzc := hc i (by omega)
    have hin := side_in Li i (by omega) (by rw [hget]; exact hz)
    rw [hget] at hin
    obtain ⟨x, hx⟩ : ∃ x, L.getD i default = x := ⟨_, rfl⟩
    rw [hx] at hz hzc hin hnext
    have hdue := due_can x h.toInt
    have hone : endOne h i Li Si x = if (dueX x h.toInt).2 = false then ((Li, Si), 0) else if (x.pend && (x.cert.ep == (dueX x h.toInt).1)) = true then (if (payGo Si x i h).2 = 0 then ((Li.set i (payX x), (payGo Si x i h).1), 0) else ((Li, (payGo Si x i h).1), (payGo Si x i h).2)) else ((Li.set i (ceaseX x h.toInt), Si), 0) := rfl
    rw [hone] at hnext
    clear hone
    obtain ⟨⟨dv, db⟩, hd⟩ : ∃ p, dueX x h.toInt = p := ⟨_, rfl⟩
    rw [hd] at hdue hnext
    dsimp only at hdue hnext
    refine wD <| cutG <| Tri.seq <| Tri.block ?_
    (refine Tri.cut 2 Tryz.mixed Tryz.T_ok ?_; refine xZ ?_)
    (apply wP; exact (call_op rfl (entersB_of Tryz.func22 (by kernel_rfl)) rfl (hin.at1 [] rfl rfl rfl ⟨lend_plain rfl, trivial⟩ trivial)); refine xZ ?_)
    refine wD <| cutG <| Tri.ent (Ent.unpack (c := 9) (l := sideRows x) rfl) <| Tri.ent (S' := endSt2 n h Li Si i x) ?_ ?_
    · unfold endSt2
      ((try dsimp only); refine Ent.renC [0, 1, 2, 3, 13, 16, 17, 18, 19] hC ?_ ?_ <;> repeat' (first | exact trivial | exact rfl | exact ⟨_, rfl, rfl, rfl, Nat.le_refl _, fun _ _ => rfl⟩ | exact ⟨_, rfl, rfl, rfl, fun _ _ => rfl⟩ | exact ⟨_, rfl, rfl, rfl⟩ | exact ⟨_, rfl, rfl⟩ | refine ⟨_, rfl, rfl, rfl, by omega, fun k hk => ?_⟩ | refine ⟨?_, ?_⟩ | fail))
    unfold endSt2
    have hset1 := regSet_can Li i (by omega) (payX x) ⟨hz.keys, Nat.zero_le _, Nat.zero_le _, hz.used⟩
    have hset2 := regSet_can Li i (by omega) (ceaseX x h.toInt) ⟨hz.keys, hz.outs, hz.sigs, hz.used⟩
    refine Tri.of Tryz.mixed Tryz.T_ok ?_
    (refine xB ?_)
    (apply wP; exact (call_op rfl (entersB_of Tryz.func27 (by kernel_rfl)) rfl (hdue.at [5, 6, 7, 8] ⟨lend_side (x := x) (lend_vecN (lo := 0) rfl rfl rfl (Nat.le_of_eq (Nat.zero_add _)) (fun i _ => by rw [Nat.zero_add])) (lend_vecN (lo := 0) rfl rfl rfl (Nat.le_of_eq (Nat.zero_add _)) (fun i _ => by rw [Nat.zero_add])) (lend_vecN (lo := 0) rfl rfl rfl (Nat.le_of_eq (Nat.zero_add _)) (fun i _ => by rw [Nat.zero_add])) (lend_vecN (lo := 0) rfl rfl rfl (Nat.le_of_eq (Nat.zero_add _)) (fun i _ => by rw [Nat.zero_add])), lend_plain rfl, trivial⟩ trivial)); refine xZ ?_)
    refine wC (fun h2 => ?_) (fun h2 => ?_)
    · have hdb : db = false := by simpa using h2
      rw [if_pos hdb] at hnext
      (refine xG ?_)
      refine wD <| blockX <| cutG <| Tri.of Tryz.mixed Tryz.T_ok ?_
      (refine xB ?_)
      refine wD <| loopN ⟨⟨i + 1, Li, Si, by omega, hnext⟩, by dsimp only; omega, ?_⟩
      rw [hw]
      ((try dsimp only); refine Ent.renC [0, 1, 2, 3] hC ?_ ?_ <;> repeat' (first | exact trivial | exact rfl | exact ⟨_, rfl, rfl, rfl, Nat.le_refl _, fun _ _ => rfl⟩ | exact ⟨_, rfl, rfl, rfl, fun _ _ => rfl⟩ | exact ⟨_, rfl, rfl, rfl⟩ | exact ⟨_, rfl, rfl⟩ | refine ⟨_, rfl, rfl, rfl, by omega, fun k hk => ?_⟩ | refine ⟨?_, ?_⟩ | fail))
    have hdb : db = true := by simpa using h2
    rw [if_neg (by rw [hdb]; simp)] at hnext
    (refine xG ?_)
    refine wC (fun h3 => ?_) (fun h3 => ?_)
    · (refine xG ?_)
      refine wC (fun h4 => ?_) (fun h4 => ?_)
      · rw [if_pos (by rw [h3, Bool.true_and]; exact h4)] at hnext
        obtain ⟨⟨S', er⟩, hpg⟩ : ∃ p, payGo Si x i h = p := ⟨_, rfl⟩
        rw [hpg] at hnext
        dsimp only at hnext
        (refine xG ?_)
        by_cases h5 : er = 0
        · subst h5
          rw [if_pos rfl] at hnext
          (apply wP; exact (call_op rfl (entersB_of Tryz.func71 (by kernel_rfl)) rfl (pay_ok Si x i h hzc (by omega) (u := 1) (k := 5) (o := 6) (s := 7) (us := 8) (e := 3) rfl rfl ⟨rfl, rfl, rfl, rfl, rfl, trivial⟩ ⟨rfl, trivial⟩ (by rw [hpg]) (S' := S') (by rw [hpg]))); refine xZ ?_)
          (apply wP; exact (call_op rfl (entersB_of Tryz.func49 (by kernel_rfl)) rfl (hset1.at [5, 8] rfl rfl rfl ⟨lend_plain rfl, lend_side (x := payX x) (lend_vecN (lo := 0) rfl rfl rfl (Nat.le_of_eq (Nat.zero_add _)) (fun i _ => by rw [Nat.zero_add]; rfl)) (lend_nil _ _) (lend_nil _ _) (lend_vecN (lo := 0) rfl rfl rfl (Nat.le_of_eq (Nat.zero_add _)) (fun i _ => by rw [Nat.zero_add]; rfl)), trivial⟩ trivial)); refine xZ ?_)
          refine wD <| blockN <| cutG <| Tri.of Tryz.mixed Tryz.T_ok ?_
          (refine xB ?_)
          refine wD <| loopN ⟨⟨i + 1, Li.set i (payX x), S', by omega, hnext⟩, by dsimp only; omega, ?_⟩
          rw [hw]
          ((try dsimp only); refine Ent.renC [0, 1, 2, 3] hC ?_ ?_ <;> repeat' (first | exact trivial | exact rfl | exact ⟨_, rfl, rfl, rfl, Nat.le_refl _, fun _ _ => rfl⟩ | exact ⟨_, rfl, rfl, rfl, fun _ _ => rfl⟩ | exact ⟨_, rfl, rfl, rfl⟩ | exact ⟨_, rfl, rfl⟩ | refine ⟨_, rfl, rfl, rfl, by omega, fun k hk => ?_⟩ | refine ⟨?_, ?_⟩ | fail))
        · rw [if_neg h5] at hnext
          (apply wP; exact (call_op rfl (entersB_of Tryz.func71 (by kernel_rfl)) rfl (pay_bad Si x i h hzc (by omega) (u := 1) (k := 5) (o := 6) (s := 7) (us := 8) (e := 3) rfl rfl ⟨rfl, rfl, rfl, rfl, rfl, trivial⟩ ⟨rfl, trivial⟩ hpg h5)); refine xZ ?_)
          have hE : endE h L S = ((Li, S'), er) := by rw [hfin (by rw [hnext]; exact h5) (by omega), hnext]
          rw [hE]
          refine wTd (by simpa using h5) ?_
          (refine xG ?_)
          exact wD <| blockR <| cutR <| loopR <| blockR <| cutR <| Ends.shutN2 (.inr rfl) (Ent.refl _) rfl rfl rfl rfl
      · rw [if_neg (by rw [h3, Bool.true_and]; intro h6; rw [show (x.cert.ep == dv) = false from h4] at h6; cases h6)] at hnext
        (refine xG ?_)
        (apply wP; exact (call_op rfl (entersB_of Tryz.func49 (by kernel_rfl)) rfl (hset2.at [5, 6, 7, 8] rfl rfl rfl ⟨lend_plain rfl, lend_side (x := ceaseX x h.toInt) (lend_vecN (lo := 0) rfl rfl rfl (Nat.le_of_eq (Nat.zero_add _)) (fun i _ => by rw [Nat.zero_add]; rfl)) (lend_vecN (lo := 0) rfl rfl rfl (Nat.le_of_eq (Nat.zero_add _)) (fun i _ => by rw [Nat.zero_add]; rfl)) (lend_vecN (lo := 0) rfl rfl rfl (Nat.le_of_eq (Nat.zero_add _)) (fun i _ => by rw [Nat.zero_add]; rfl)) (lend_vecN (lo := 0) rfl rfl rfl (Nat.le_of_eq (Nat.zero_add _)) (fun i _ => by rw [Nat.zero_add]; rfl)), trivial⟩ trivial)); refine xZ ?_)
        refine wD <| blockN <| cutG <| Tri.of Tryz.mixed Tryz.T_ok ?_
        (refine xB ?_)
        refine wD <| loopN ⟨⟨i + 1, Li.set i (ceaseX x h.toInt), Si, by omega, hnext⟩, by dsimp only; omega, ?_⟩
        rw [hw]
        ((try dsimp only); refine Ent.renC [0, 1, 2, 3] hC ?_ ?_ <;> repeat' (first | exact trivial | exact rfl | exact ⟨_, rfl, rfl, rfl, Nat.le_refl _, fun _ _ => rfl⟩ | exact ⟨_, rfl, rfl, rfl, fun _ _ => rfl⟩ | exact ⟨_, rfl, rfl, rfl⟩ | exact ⟨_, rfl, rfl⟩ | refine ⟨_, rfl, rfl, rfl, by omega, fun k hk => ?_⟩ | refine ⟨?_, ?_⟩ | fail))
    · rw [if_neg (by rw [h3, Bool.false_and]; simp)] at hnext
      (refine xG ?_)
      (apply wP; exact (call_op rfl (entersB_of Tryz.func49 (by kernel_rfl)) rfl (hset2.at [5, 6, 7, 8] rfl rfl rfl ⟨lend_plain rfl, lend_side (x := ceaseX x h.toInt) (lend_vecN (lo := 0) rfl rfl rfl (Nat.le_of_eq (Nat.zero_add _)) (fun i _ => by rw [Nat.zero_add]; rfl)) (lend_vecN (lo := 0) rfl rfl rfl (Nat.le_of_eq (Nat.zero_add _)) (fun i _ => by rw [Nat.zero_add]; rfl)) (lend_vecN (lo := 0) rfl rfl rfl (Nat.le_of_eq (Nat.zero_add _)) (fun i _ => by rw [Nat.zero_add]; rfl)) (lend_vecN (lo := 0) rfl rfl rfl (Nat.le_of_eq (Nat.zero_add _)) (fun i _ => by rw [Nat.zero_add]; rfl)), trivial⟩ trivial)); refine xZ ?_)
      refine wD <| blockN <| cutG <| Tri.of Tryz.mixed Tryz.T_ok ?_
      (refine xB ?_)
      refine wD <| loopN ⟨⟨i + 1, Li.set i (ceaseX x h.toInt), Si, by omega, hnext⟩, by dsimp only; omega, ?_⟩
      rw [hw]
      ((try dsimp only); refine Ent.renC [0, 1, 2, 3] hC ?_ ?_ <;> repeat' (first | exact trivial | exact rfl | exact ⟨_, rfl, rfl, rfl, Nat.le_refl _, fun _ _ => rfl⟩ | exact ⟨_, rfl, rfl, rfl, fun _ _ => rfl⟩ | exact ⟨_, rfl, rfl, rfl⟩ | exact ⟨_, rfl, rfl⟩ | refine ⟨_, rfl, rfl, rfl, by omega, fun k hk => ?_⟩ | refine ⟨?_, ?_⟩ | fail))
  · (refine xG ?_)
    have h1' : i = n := xW
    subst h1'
    have hE : endE h L S = ((Li, Si), 0) := by rw [endE, hn, he]
    rw [hE]
    refine wD <| cutE <| loopX <| blockX <| cutG <| Tri.of Tryz.mixed Tryz.T_ok ?_
    (refine xB ?_)
    exact wD (Ends.shutN2 (.inr rfl) (Ent.refl _) rfl rfl rfl rfl)
end Go.Proofs.YtnpkdoggfnlapaaGreatDoor
namespace Go.Proofs.YtnpkdoggfnlapaaGreatDoor
set_option maxRecDepth 100000
open Go.Sx
def rmcSt (c : CertM) (i : Nat) : St := ⟨[none, some (XV.sv (.ptr 2 0 0 0)), none, some (XV.int .i64 i)] ++ List.replicate 89 none, [(0, .ro 9 c.outs.length (outsF c.outs)), (1, .ro 282 c.sigs.length (sgdsF c.sigs)), (2, .cells 43 (boxC 0 c.ac))], 3⟩
theorem certOK_all {c : CertM} : certOK c = true ↔ c.sigs.all sgdOK = true ∧ (((0 ≤ c.side ∧ c.side ≤ 7) ∧ (0 ≤ c.ep ∧ c.ep ≤ 400) ∧ (0 ≤ c.qual ∧ c.qual ≤ 2147483647)) ∧ outsOK c.outs = true ∧ (1 ≤ (c.sigs.length : Int) ∧ (c.sigs.length : Int) ≤ 5)) := by
  simp only [certOK, certN, withinB, Bool.and_eq_true, decide_eq_true_eq]
theorem sgdOK_iff {s : SgdM} : sgdOK s = true ↔ (0 ≤ s.key ∧ s.key ≤ 4) ∧ (0 ≤ s.sig.idx ∧ s.sig.idx ≤ 255) := by
  simp only [sgdOK, withinB, Bool.and_eq_true, decide_eq_true_eq]
set_option maxHeartbeats 8000000 in
theorem rmayCert_can (c : CertM) (ho : c.outs.length ≤ 1000000000) (hl : c.sigs.length ≤ 1000000000) : Reads Tryz.prog 113 [.box c.ac] [] (XV.bool (certOK c)) := by
  have bad : (certOK c = true → False) → XV.bool false = XV.bool (certOK c) := fun h => by
    cases hc : certOK c with
    | false => rfl
    | true => exact (h hc).elim
  have hm := routs_can c.outs ho
  refine Reads.of Tryz.T_ok Tryz.func113 rfl _ _ _ rfl rfl (fun C hC => ?_)
  (replace hC : C.n0 = 2 := hC; change Tri _ _ _ ⟨_, _, 2⟩ _)
  (refine Tri.cut 2 Tryz.mixed Tryz.T_ok ?_; refine xZ ?_)
  refine wC (fun h1 => ?_) (fun h1 => ?_)
  · (refine xG ?_)
    exact wD <| cutR <| Ends.plain (.inr rfl) rfl (bad fun h => by have := (certOK_all.1 h).2; simp only [decide_eq_true_eq] at h1; omega)
  (refine xG ?_)
  refine wC (fun h2 => ?_) (fun h2 => ?_)
  · (refine xG ?_)
    exact wD <| cutR <| Ends.plain (.inr rfl) rfl (bad fun h => by have := (certOK_all.1 h).2; simp only [decide_eq_true_eq] at h2; omega)
  (refine xG ?_)
  refine wC (fun h3 => ?_) (fun h3 => ?_)
  · (refine xG ?_)
    exact wD <| cutR <| Ends.plain (.inr rfl) rfl (bad fun h => by have := (certOK_all.1 h).2; simp only [decide_eq_true_eq] at h3; omega)
  (refine xG ?_)
  refine wC (fun h4 => ?_) (fun h4 => ?_)
  · (refine xG ?_)
    exact wD <| cutR <| Ends.plain (.inr rfl) rfl (bad fun h => by have := (certOK_all.1 h).2; simp only [decide_eq_true_eq] at h4; omega)
  (refine xG ?_)
  refine wC (fun h5 => ?_) (fun h5 => ?_)
  · (refine xG ?_)
    exact wD <| cutR <| Ends.plain (.inr rfl) rfl (bad fun h => by have := (certOK_all.1 h).2; simp only [decide_eq_true_eq] at h5; omega)
  (refine xG ?_)
  refine wC (fun h6 => ?_) (fun h6 => ?_)
  · (refine xG ?_)
    exact wD <| cutR <| Ends.plain (.inr rfl) rfl (bad fun h => by have := (certOK_all.1 h).2; simp only [decide_eq_true_eq] at h6; omega)
  (refine xG ?_)
  (apply wP; exact (call_op rfl (entersB_of Tryz.func110 (by kernel_rfl)) rfl (hm.at [0] ⟨lend_ro0 rfl rfl, trivial⟩ trivial)); refine xZ ?_)
  refine wC (fun h7 => ?_) (fun h7 => ?_)
  · (refine xG ?_)
    exact wD <| cutR <| Ends.plain (.inr rfl) rfl (bad fun h => by have := (certOK_all.1 h).2.2.1; rw [this] at h7; cases h7)
  (refine xG ?_)
  refine wC (fun h8 => ?_) (fun h8 => ?_)
  · (refine xG ?_)
    exact wD <| cutR <| Ends.plain (.inr rfl) rfl (bad fun h => by have := (certOK_all.1 h).2; simp only [decide_eq_true_eq] at h8; omega)
  (refine xG ?_)
  refine wC (fun h9 => ?_) (fun h9 => ?_)
  · (refine xG ?_)
    exact wD <| cutR <| Ends.plain (.inr rfl) rfl (bad fun h => by have := (certOK_all.1 h).2; simp only [decide_eq_true_eq] at h9; omega)
  have hN : ((0 ≤ c.side ∧ c.side ≤ 7) ∧ (0 ≤ c.ep ∧ c.ep ≤ 400) ∧ (0 ≤ c.qual ∧ c.qual ≤ 2147483647)) ∧ outsOK c.outs = true ∧ (1 ≤ (c.sigs.length : Int) ∧ (c.sigs.length : Int) ≤ 5) := by
    simp only [decide_eq_false_iff_not] at h1 h2 h3 h4 h5 h6 h8 h9
    exact ⟨⟨⟨by omega, by omega⟩, ⟨by omega, by omega⟩, by omega, by omega⟩, by simpa using h7, by omega, by omega⟩
  (refine xG ?_)
  refine wD <| cutG <| Tri.seq ?_
  (refine Tri.cut 1 Tryz.mixed Tryz.T_ok ?_; refine xZ ?_)
  refine wD <| cutG <| Tri.block ?_
  refine Tri.loop (α := { i : Nat // i ≤ c.sigs.length ∧ (c.sigs.take i).all sgdOK = true }) (fun i => rmcSt c i.1) (fun i => c.sigs.length - i.1) ⟨0, Nat.zero_le _, rfl⟩ ?_ ?_
  · unfold rmcSt
    ((try dsimp only); refine Ent.renC [0, 1, 2] hC ?_ ?_ <;> repeat' (first | exact trivial | exact rfl | exact ⟨_, rfl, rfl, rfl, Nat.le_refl _, fun _ _ => rfl⟩ | exact ⟨_, rfl, rfl, rfl, fun _ _ => rfl⟩ | exact ⟨_, rfl, rfl, rfl⟩ | exact ⟨_, rfl, rfl⟩ | refine ⟨_, rfl, rfl, rfl, by omega, fun k hk => ?_⟩ | refine ⟨?_, ?_⟩ | fail))
  rintro ⟨i, hi, ha⟩
  dsimp only
  unfold rmcSt
  (refine Tri.cut 1 Tryz.mixed Tryz.T_ok ?_; refine xZ ?_)
  refine wC (fun k1 => ?_) (fun k1 => ?_)
  · (refine xG ?_)
    have h1' : i < c.sigs.length := xW
    have hw : IntKind.i64.wrap ((i : Int) + 1) = ((i + 1 : Nat) : Int) := xW
    have hs := all_take_succ (p := sgdOK) h1'
    have bad2 : (sgdOK (c.sigs.getD i default) = true → False) → XV.bool false = XV.bool (certOK c) := fun h => bad fun hc => h (all_at (certOK_all.1 hc).1 h1')
    refine wD <| cutG <| Tri.seq <| Tri.block <| Tri.of Tryz.mixed Tryz.T_ok ?_
    (refine xB ?_)
    (repeat (refine wN ?_ ?_; exact xW; refine xG ?_))
    simp only [Nat.zero_add, Int.toNat_natCast]
    refine wC (fun k2 => ?_) (fun k2 => ?_)
    · (refine xG ?_)
      exact wD <| blockR <| cutR <| loopR <| blockR <| cutR <| Ends.plain (.inr rfl) rfl (bad2 fun h => by have := sgdOK_iff.1 h; simp only [decide_eq_true_eq] at k2; omega)
    (refine xG ?_)
    (repeat (refine wN ?_ ?_; exact xW; refine xG ?_))
    simp only [Nat.zero_add, Int.toNat_natCast]
    refine wC (fun k3 => ?_) (fun k3 => ?_)
    · (refine xG ?_)
      exact wD <| blockR <| cutR <| loopR <| blockR <| cutR <| Ends.plain (.inr rfl) rfl (bad2 fun h => by have := sgdOK_iff.1 h; simp only [decide_eq_true_eq] at k3; omega)
    (refine xG ?_)
    (repeat (refine wN ?_ ?_; exact xW; refine xG ?_))
    simp only [Nat.zero_add, Int.toNat_natCast]
    refine wC (fun k4 => ?_) (fun k4 => ?_)
    · (refine xG ?_)
      exact wD <| blockR <| cutR <| loopR <| blockR <| cutR <| Ends.plain (.inr rfl) rfl (bad2 fun h => by have := sgdOK_iff.1 h; simp only [decide_eq_true_eq] at k4; omega)
    (refine xG ?_)
    (repeat (refine wN ?_ ?_; exact xW; refine xG ?_))
    simp only [Nat.zero_add, Int.toNat_natCast]
    refine wC (fun k5 => ?_) (fun k5 => ?_)
    · (refine xG ?_)
      exact wD <| blockR <| cutR <| loopR <| blockR <| cutR <| Ends.plain (.inr rfl) rfl (bad2 fun h => by have := sgdOK_iff.1 h; simp only [decide_eq_true_eq] at k5; omega)
    (refine xG ?_)
    have hg : sgdOK (c.sigs.getD i default) = true := by
      simp only [decide_eq_false_iff_not] at k2 k3 k4 k5
      exact sgdOK_iff.2 ⟨⟨by omega, by omega⟩, by omega, by omega⟩
    refine wD <| blockN <| cutG <| Tri.of Tryz.mixed Tryz.T_ok ?_
    (refine xB ?_)
    refine wD <| loopN ⟨⟨i + 1, h1', by rw [hs, ha, hg]; rfl⟩, by dsimp only; omega, ?_⟩
    rw [hw]
    ((try dsimp only); refine Ent.renC [0, 1, 2] hC ?_ ?_ <;> repeat' (first | exact trivial | exact rfl | exact ⟨_, rfl, rfl, rfl, Nat.le_refl _, fun _ _ => rfl⟩ | exact ⟨_, rfl, rfl, rfl, fun _ _ => rfl⟩ | exact ⟨_, rfl, rfl, rfl⟩ | exact ⟨_, rfl, rfl⟩ | refine ⟨_, rfl, rfl, rfl, by omega, fun k hk => ?_⟩ | refine ⟨?_, ?_⟩ | fail))
  · (refine xG ?_)
    have h1' : i = c.sigs.length := xW
    subst h1'
    rw [List.take_length] at ha
    refine wD <| cutE <| loopX <| blockX <| cutG <| Tri.of Tryz.mixed Tryz.T_ok ?_
    (refine xB ?_)
    exact wD (Ends.plain (.inr rfl) rfl (by rw [certOK_all.2 ⟨ha, hN⟩]))
theorem sgds_flat (l : List SgdM) : (l.flatMap SgdM.parts).flatten.length = 282 * l.length := by
  induction l with
  | nil => rfl
  | cons s r ih => simp only [List.flatMap_cons, List.flatten_append, List.length_append, ih, SgdM.parts, List.flatten_cons, numL_length, sig_flat, List.length_cons]; omega
def certB0 (c : CertM) : List UInt8 := numL c.side 1 ++ numL c.ep 4 ++ numL c.qual 4 ++ c.fin.l ++ c.root.l ++ (outsParts c.outs).flatten ++ numL (c.sigs.length : Int) 1
def certBs (c : CertM) (i : Nat) : List UInt8 := certB0 c ++ ((c.sigs.take i).flatMap SgdM.parts).flatten
theorem certBs_all (c : CertM) : certBs c c.sigs.length = (certP c).flatten := by simp [certBs, certB0, certP]
theorem certBs_succ {c : CertM} {i : Nat} (hi : i < c.sigs.length) : certBs c (i + 1) = certBs c i ++ numL (c.sigs.getD i default).key 1 ++ (c.sigs.getD i default).sig.parts.flatten := by
  rw [certBs, certBs, flatMap_take_succ _ hi]
  simp [SgdM.parts]
def rcbSt (c : CertM) (i : Nat) : St :=
  ⟨[none, some (XV.sv (.ptr 2 0 0 0)), none, some (XV.sv (.slc 3 1 0 (certBs c i).length)), some (XV.int .i64 i)] ++ List.replicate 53 none, [(0, .ro 9 c.outs.length (outsF c.outs)), (1, .ro 282 c.sigs.length (sgdsF c.sigs)), (2, .cells 43 (boxC 0 c.ac)), (3, .vec 5 1 (certBs c i).length (rowB (certBs c i)))], 4⟩
set_option maxHeartbeats 8000000 in
theorem rcertB_can (c : CertM) (ho : c.outs.length ≤ 1000) (hl : c.sigs.length ≤ 1000) : Makes Tryz.prog 93 [.box c.ac] [] (XV.sv (.slc 0 1 0 (certP c).flatten.length)) (.vec 5 1 (certP c).flatten.length (rowB (certP c).flatten)) := by
  refine Makes.of Tryz.T_ok Tryz.func93 rfl _ _ _ _ rfl rfl rfl rfl 3 (fun C hC => ?_)
  (replace hC : C.n0 = 2 := hC; change Tri _ _ _ ⟨_, _, 2⟩ _)
  have hob := outsB_len c.outs c.outs.length (Nat.le_refl _)
  rw [outsB_all] at hob
  (refine Tri.cut 4 Tryz.mixed Tryz.T_ok ?_; refine xZ ?_)
  (apply wP; exact (call_op rfl (entersB_of Tryz.func72 (by kernel_rfl)) rfl ((num_can c.side 1 (by decide)).at [] ⟨lend_plain rfl, lend_plain rfl, trivial⟩ trivial)); refine xZ ?_)
  (apply wP; exact (call_op rfl (entersB_of Tryz.func72 (by kernel_rfl)) rfl ((num_can c.ep 4 (by decide)).at [] ⟨lend_plain rfl, lend_plain rfl, trivial⟩ trivial)); refine xZ ?_)
  (refine wP _ _ (append_op Tryz.T_ok rfl rfl rfl rfl rfl [6, 9] (old_vec rfl rfl (Nat.le_refl _) rfl) (new_vec (lo := 0) rfl rfl (Nat.le_of_eq (Nat.zero_add _)) rfl) rfl (fun _ _ => rfl) (by simp only [maxLen]; omega) (by dsimp only; omega)) ?_; refine xZ ?_)
  (apply wP; exact (call_op rfl (entersB_of Tryz.func72 (by kernel_rfl)) rfl ((num_can c.qual 4 (by decide)).at [] ⟨lend_plain rfl, lend_plain rfl, trivial⟩ trivial)); refine xZ ?_)
  (refine wP _ _ (append_op Tryz.T_ok rfl rfl rfl rfl rfl [10, 13] (old_vec rfl rfl (Nat.le_refl _) rfl) (new_vec (lo := 0) rfl rfl (Nat.le_of_eq (Nat.zero_add _)) rfl) rfl (fun _ _ => rfl) (by simp only [maxLen]; omega) (by dsimp only; omega)) ?_; refine xZ ?_)
  (refine wP _ _ (append_op Tryz.T_ok rfl rfl rfl rfl rfl [14, 2] (old_vec rfl rfl (Nat.le_refl _) rfl) (new_sla (g := rowB c.fin.l) rfl rfl rfl (fun _ _ => rfl) rfl) rfl (fun _ _ => rfl) (by simp only [maxLen]; omega) (by dsimp only; omega)) ?_; refine xZ ?_)
  (refine wP _ _ (append_op Tryz.T_ok rfl rfl rfl rfl rfl [19, 2] (old_vec rfl rfl (Nat.le_refl _) rfl) (new_sla (g := rowB c.root.l) rfl rfl rfl (fun _ _ => rfl) rfl) rfl (fun _ _ => rfl) (by simp only [maxLen]; omega) (by dsimp only; omega)) ?_; refine xZ ?_)
  (apply wP; exact (call_op rfl (entersB_of Tryz.func89 (by kernel_rfl)) rfl ((routsB_can c.outs ho).at [0] ⟨lend_ro0 rfl rfl, trivial⟩ trivial)); refine xZ ?_)
  (refine wP _ _ (append_op Tryz.T_ok rfl rfl rfl rfl rfl [22, 25] (old_vec rfl rfl (Nat.le_refl _) rfl) (new_vec (lo := 0) rfl rfl (Nat.le_of_eq (Nat.zero_add _)) rfl) rfl (fun _ _ => rfl) (by simp only [maxLen]; omega) (by dsimp only; omega)) ?_; refine xZ ?_)
  (apply wP; exact (call_op rfl (entersB_of Tryz.func72 (by kernel_rfl)) rfl ((num_can (c.sigs.length : Int) 1 (by decide)).at [] ⟨lend_plain rfl, lend_plain rfl, trivial⟩ trivial)); refine xZ ?_)
  (refine wP _ _ (append_op Tryz.T_ok rfl rfl rfl rfl rfl [26, 32] (old_vec rfl rfl (Nat.le_refl _) rfl) (new_vec (lo := 0) rfl rfl (Nat.le_of_eq (Nat.zero_add _)) rfl) rfl (fun _ _ => rfl) (by simp only [maxLen]; omega) (by dsimp only; omega)) ?_; refine xZ ?_)
  refine wD <| cutG <| Tri.seq ?_
  (refine Tri.cut 1 Tryz.mixed Tryz.T_ok ?_; refine xZ ?_)
  refine wD <| cutG <| Tri.block ?_
  have hb0 : (certB0 c).length = 27 + 15 * c.outs.length := by simp only [certB0, List.length_append, numL_length, H8.l_len, hob]; omega
  refine Tri.loop (α := { i : Nat // i ≤ c.sigs.length }) (fun i => rcbSt c i.1) (fun i => c.sigs.length - i.1) ⟨0, Nat.zero_le _⟩ ?_ ?_
  · dsimp only
    have e0 : certBs c 0 = certB0 c := by simp [certBs]
    rw [rcbSt, e0, hb0]
    ((try dsimp only); refine Ent.renC [0, 1, 2, 33] hC ?_ ?_ <;> repeat' (first | exact trivial | exact rfl | exact ⟨_, rfl, rfl, rfl, Nat.le_refl _, fun _ _ => rfl⟩ | exact ⟨_, rfl, rfl, rfl, fun _ _ => rfl⟩ | exact ⟨_, rfl, rfl, rfl⟩ | exact ⟨_, rfl, rfl⟩ | refine ⟨_, rfl, rfl, rfl, by omega, fun k hk => ?_⟩ | refine ⟨?_, ?_⟩ | fail))
    · exact congrArg (fun q => some (XV.sv (SV.slc 33 1 0 q))) (show 1 + 4 + 4 + 8 + 8 + (outsParts c.outs).flatten.length + 1 = _ by omega)
    · refine rowB_joinL (by simp only [List.length_append, numL_length, H8.l_len]; rfl) (rowB_joinL (by simp only [List.length_append, numL_length, H8.l_len]; rfl) (rowB_joinL (by simp only [List.length_append, numL_length, H8.l_len]; rfl) (rowB_joinL (by simp only [List.length_append, numL_length]) (rowB_joinL (by simp only [List.length_append, numL_length]) (rowB_joinL (numL_length _ _).symm (fun _ _ => rfl) zadd) zadd) (fun _ _ => rfl)) (fun _ _ => rfl)) zadd) zadd k ?_
      have hb1 := hb0
      rw [certB0] at hb1
      rw [hb1]
      exact hk
  rintro ⟨i, hi⟩
  dsimp only
  have hl2 : (certBs c i).length = 27 + 15 * c.outs.length + 282 * i := by
    rw [certBs, List.length_append, hb0, sgds_flat, List.length_take]; omega
  unfold rcbSt
  (refine Tri.cut 1 Tryz.mixed Tryz.T_ok ?_; refine xZ ?_)
  refine wC (fun h1 => ?_) (fun h1 => ?_)
  · (refine xG ?_)
    have h1' : i < c.sigs.length := xW
    have hw : IntKind.i64.wrap ((i : Int) + 1) = ((i + 1 : Nat) : Int) := xW
    refine wD <| cutG <| Tri.seq <| Tri.block <| Tri.of Tryz.mixed Tryz.T_ok ?_
    (refine xB ?_)
    (repeat (refine wN ?_ ?_; exact xW; refine xG ?_))
    simp only [Nat.zero_add, Int.toNat_natCast]
    (apply wP; exact (call_op rfl (entersB_of Tryz.func72 (by kernel_rfl)) rfl ((num_can (c.sigs.getD i default).key 1 (by decide)).at [] ⟨lend_plain rfl, lend_plain rfl, trivial⟩ trivial)); refine xZ ?_)
    (refine wP _ _ (append_op Tryz.T_ok rfl rfl rfl rfl rfl [3, 16] (old_vec rfl rfl (Nat.le_refl _) rfl) (new_vec (lo := 0) rfl rfl (Nat.le_of_eq (Nat.zero_add _)) rfl) rfl (fun _ _ => rfl) (by simp only [maxLen]; omega) (by dsimp only; omega)) ?_; refine xZ ?_)
    (repeat (refine wN ?_ ?_; exact xW; refine xG ?_))
    simp only [Nat.zero_add, Int.toNat_natCast]
    (apply wP; exact (call_op rfl (entersB_of Tryz.func149 (by kernel_rfl)) rfl ((rsig_can (c.sigs.getD i default).sig).at [] ⟨lend_plain rfl, trivial⟩ trivial)); refine xZ ?_)
    (refine wP _ _ (append_op Tryz.T_ok rfl rfl rfl rfl rfl [17, 24] (old_vec rfl rfl (Nat.le_refl _) rfl) (new_vec (lo := 0) rfl rfl (Nat.le_of_eq (Nat.zero_add _)) rfl) rfl (fun _ _ => rfl) (by simp only [maxLen]; omega) (by dsimp only; omega)) ?_; refine xZ ?_)
    refine wD <| blockN <| cutG <| Tri.of Tryz.mixed Tryz.T_ok ?_
    (refine xB ?_)
    refine wD <| loopN ⟨⟨i + 1, h1'⟩, by dsimp only; omega, ?_⟩
    rw [hw]
    dsimp only
    rw [certBs_succ h1', List.length_append, List.length_append, numL_length, sig_flat]
    ((try dsimp only); refine Ent.renC [0, 1, 2, 25] hC ?_ ?_ <;> repeat' (first | exact trivial | exact rfl | exact ⟨_, rfl, rfl, rfl, Nat.le_refl _, fun _ _ => rfl⟩ | exact ⟨_, rfl, rfl, rfl, fun _ _ => rfl⟩ | exact ⟨_, rfl, rfl, rfl⟩ | exact ⟨_, rfl, rfl⟩ | refine ⟨_, rfl, rfl, rfl, by omega, fun k hk => ?_⟩ | refine ⟨?_, ?_⟩ | fail))
    · refine rowB_joinL (by rw [List.length_append, numL_length]) (rowB_joinL rfl (fun _ _ => rfl) (fun _ _ => rfl)) zadd k ?_
      simp only [List.length_append, numL_length, sig_flat]
      exact hk
  · (refine xG ?_)
    have h1' : i = c.sigs.length := xW
    subst h1'
    rw [certBs_all]
    refine wD <| cutE <| loopX <| blockX <| cutG <| Tri.of Tryz.mixed Tryz.T_ok ?_
    (refine xB ?_)
    exact wD (Ends.made (.inr rfl) (Ent.refl _) rfl (Nat.le_of_ble_eq_true rfl) rfl)
end Go.Proofs.YtnpkdoggfnlapaaGreatDoor
