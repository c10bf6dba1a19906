/- Parts Bu Ka Kb Kc Kd By Ke Kf Kg. -/
import Derived.Test.YtnpkdoggfnlapaaGreatDoorG24
import Derived.Test.YtnpkdoggfnlapaaGreatDoorG21
import Derived.Test.YtnpkdoggfnlapaaGreatDoorG12
set_option linter.unusedSimpArgs false
set_option linter.unusedVariables false
namespace Go.Proofs.YtnpkdoggfnlapaaGreatDoor
set_option maxRecDepth 100000
open Go.Sx
theorem lend_plan14 {M : Mem} {rd : List Nat} {p : Plan14} {k s : SV} (h1 : Lends M rd (.one k) (.row 1 p.am.length (intsF p.ams))) (h2 : Lends M rd (.one s) (.row 1 p.who.length (rowB p.who))) : Lends M rd (.agg [.raw (.int .i64 p.side), .raw (.int .i64 p.ep), .raw (.int .i64 p.qual), k, s, .raw (u8 p.bend)]) (.box p.ac) :=
  lend_box ⟨rfl, rfl, rfl, h1, h2, rfl, trivial⟩
def aw15a (L : List SideM) : St :=
  ⟨[none, some (XV.sv (.ptr 1 0 0 0)), none, some (XV.sv (.ptr 2 0 0 0))] ++ List.replicate 79 none, [(0, .ext stepsP), (1, .abs (pReg L)), (2, .abs (usetP USet.empty))], 3⟩
def aw15b (L : List SideM) : St :=
  ⟨[none, some (XV.sv (.ptr 1 0 0 0)), none, some (XV.sv (.ptr 2 0 0 0)), some (XV.int .i64 0)] ++ List.replicate 78 none, [(0, .ext stepsP), (1, .abs (pReg L)), (2, .abs (usetP USet.empty))], 3⟩
def aw15c (L : List SideM) (S : USet) : St :=
  ⟨[none, some (XV.sv (.ptr 1 0 0 0)), none, some (XV.sv (.ptr 2 0 0 0)), some (XV.int .i64 0), some (XV.int .i64 0)] ++ List.replicate 77 none, [(0, .ext stepsP), (1, .abs (pReg L)), (2, .abs (usetP S))], 3⟩
theorem ints99 : ∀ i, i < 2 → intsF [9, 9] i = cutF [.int .i64 9, .int .i64 9] 1 (0 + i) := fun i hi => by
  rw [Nat.zero_add]
  match i, hi with
  | 0, _ => rfl
  | 1, _ => rfl
set_option maxHeartbeats 8000000 in
theorem awake15 : Reads Tryz.prog 26 [] [stepsP] (XV.bool true) := by
  obtain ⟨x1, x2, S', t1, t2, m1, m2, m3, m4, m5, m6, m7, z1, z2⟩ := awake15_law
  have g1 := goes_start (m := 9) (by decide) (by decide)
  have hmk := make14_can p0 (by decide) (by decide)
  have hsz : ∀ i, i < (fillL [9, 9] 2).length → ((fillL [9, 9] 2).getD i default).Sized := fun i hi => by
    have hs : (sideN 9).Sized := ⟨by rw [g1.1.par, mp_len]; decide, by rw [g1.2.2.2.2.2.1]; decide, by rw [g1.2.2.2.2.2.1]; decide, by rw [g1.2.2.2.2.2.2]; decide⟩
    match i, hi with
    | 0, _ => exact hs
    | 1, _ => exact hs
  have ktake := ctake_can (fillL [9, 9] 2) (make14 p0) 8 finH hsz (by decide) (by decide) (by decide)
  rw [t1] at ktake
  refine Reads.of Tryz.T_ok Tryz.func26 rfl _ _ _ rfl rfl (fun C hC => ?_)
  (replace hC : C.n0 = 1 := hC; change Tri _ _ _ ⟨_, _, 1⟩ _)
  (refine Tri.cut 3 Tryz.mixed Tryz.T_ok ?_; refine xZ ?_)
  (apply wP; exact (call_op rfl (entersB_of Tryz.func29 (by kernel_rfl)) rfl ((fill14_can [9, 9] (by decide)).at [2] ⟨lend_vecN (lo := 0) rfl rfl rfl (Nat.le_refl _) ints99, trivial⟩ trivial)); refine xZ ?_)
  (apply wP; exact (call_op rfl (entersB_of Tryz.func19 (by kernel_rfl)) rfl (new_spec)); refine xZ ?_)
  refine wD <| cutG <| Tri.ent (Ent.unpack (c := 3) (l := fill14Pack (fillL [9, 9] 2)) rfl) <| Tri.ent (S' := aw15a (fillL [9, 9] 2)) ?_ ?_
  · unfold aw15a
    ((try dsimp only); refine Ent.renC [0, 11, 9] hC ?_ ?_ <;> repeat' (first | exact trivial | exact rfl | exact ⟨_, rfl, rfl, rfl, Nat.le_refl _, fun _ _ => rfl⟩ | exact ⟨_, rfl, rfl, rfl, fun _ _ => rfl⟩ | exact ⟨_, rfl, rfl, rfl⟩ | exact ⟨_, rfl, rfl⟩ | refine ⟨_, rfl, rfl, rfl, by omega, fun k hk => ?_⟩ | refine ⟨?_, ?_⟩ | fail))
  unfold aw15a
  have hlen : (fillL [9, 9] 2).length = 2 := fillL_len _ _
  generalize fillL [9, 9] 2 = L0 at ktake hlen ⊢
  (refine Tri.cut 2 Tryz.mixed Tryz.T_ok ?_; refine xZ ?_)
  (apply wP; exact (call_op rfl (entersB_of Tryz.func32 (by kernel_rfl)) rfl (hmk.at [10, 11] ⟨lend_plan14 (p := p0) (lend_vecN (lo := 0) rfl rfl rfl (Nat.le_refl _) (fun i hi => by obtain rfl := Nat.lt_one_iff.1 hi; rfl)) (lend_vecN (lo := 0) rfl rfl rfl (Nat.le_refl _) (fun i hi => by match i, hi with | 0, _ => rfl | 1, _ => rfl)), trivial⟩ trivial)); refine xZ ?_)
  (apply wP; exact (call_op rfl (entersB_of Tryz.func33 (by kernel_rfl)) rfl (end14_can.at [] trivial trivial)); refine xZ ?_)
  (apply wP; exact (call_op rfl (entersB_of Tryz.func31 (by kernel_rfl)) rfl (ktake.at [13, 0] rfl rfl rfl ⟨lend_cert (c := make14 p0) (lend_ins (j := 0) rfl rfl rfl rfl (Nat.le_refl _) (fun _ _ => rfl)) (lend_ins (j := 1) rfl rfl rfl rfl (Nat.le_refl _) (fun _ _ => rfl)), lend_plain rfl, lend_plain rfl, trivial⟩ ⟨lend_ext (c := 0) rfl rfl, trivial⟩)); refine xZ ?_)
  dsimp only
  obtain ⟨y, hy⟩ : ∃ y, waitX (sideN 9) (make14 p0) = y := ⟨_, rfl⟩
  have zy : y.Sized := by
    rw [← hy]
    exact ⟨by show (sideN 9).par.keys.length ≤ _; rw [g1.1.par, mp_len]; decide, by show 1 ≤ 1000000; decide, by show 2 ≤ 1000000; decide, by show (sideN 9).used.length ≤ _; rw [g1.2.2.2.2.2.2]; decide⟩
  have oy : y.cert.outs.length ≤ 1000 := by rw [← hy]; show 1 ≤ 1000; decide
  have zs : (sideN 9).Sized ∧ (sideN 9).cert.outs.length ≤ 1000 := ⟨⟨by rw [g1.1.par, mp_len]; decide, by rw [g1.2.2.2.2.2.1]; decide, by rw [g1.2.2.2.2.2.1]; decide, by rw [g1.2.2.2.2.2.2]; decide⟩, by rw [g1.2.2.2.2.2.1]; decide⟩
  rw [hy] at t2 ⊢
  have kend := end_can [y, sideN 9] USet.empty (Int64.ofNat 9) (fun i hi => by match i, hi with | 0, _ => exact zy | 1, _ => exact zs.1) (fun i hi => by match i, hi with | 0, _ => exact oy | 1, _ => exact zs.2) (show 2 ≤ 100 by decide) (by decide)
  rw [t2] at kend
  have k0 := side_in [x1, x2] 0 (show 0 < 2 by decide) z1
  have k1 := side_in [x1, x2] 1 (show 1 < 2 by decide) z2
  rw [show [x1, x2].getD 0 default = x1 from rfl] at k0
  rw [show [x1, x2].getD 1 default = x2 from rfl] at k1
  generalize sideN 9 = x0 at kend ⊢
  refine wD <| cutG <| Tri.ent (S' := aw15b [y, x0]) ?_ ?_
  · unfold aw15b
    ((try dsimp only); refine Ent.renC [0, 1, 2] hC ?_ ?_ <;> repeat' (first | exact trivial | exact rfl | exact ⟨_, rfl, rfl, rfl, Nat.le_refl _, fun _ _ => rfl⟩ | exact ⟨_, rfl, rfl, rfl, fun _ _ => rfl⟩ | exact ⟨_, rfl, rfl, rfl⟩ | exact ⟨_, rfl, rfl⟩ | refine ⟨_, rfl, rfl, rfl, by omega, fun k hk => ?_⟩ | refine ⟨?_, ?_⟩ | fail))
  unfold aw15b
  (refine Tri.cut 1 Tryz.mixed Tryz.T_ok ?_; refine xZ ?_)
  (apply wP; exact (call_op rfl (entersB_of Tryz.func34 (by kernel_rfl)) rfl (kend.at2 [0] rfl rfl rfl rfl ⟨lend_plain rfl, trivial⟩ ⟨lend_ext (c := 0) rfl rfl, trivial⟩)); refine xZ ?_)
  refine wD <| cutG <| Tri.ent (S' := aw15c [x1, x2] S') ?_ ?_
  · unfold aw15c
    ((try dsimp only); refine Ent.renC [0, 1, 2] hC ?_ ?_ <;> repeat' (first | exact trivial | exact rfl | exact ⟨_, rfl, rfl, rfl, Nat.le_refl _, fun _ _ => rfl⟩ | exact ⟨_, rfl, rfl, rfl, fun _ _ => rfl⟩ | exact ⟨_, rfl, rfl, rfl⟩ | exact ⟨_, rfl, rfl⟩ | refine ⟨_, rfl, rfl, rfl, by omega, fun k hk => ?_⟩ | refine ⟨?_, ?_⟩ | fail))
  unfold aw15c
  refine Tri.of Tryz.mixed Tryz.T_ok ?_
  (refine xB ?_)
  (apply wP; exact (call_op rfl (entersB_of Tryz.func22 (by kernel_rfl)) rfl (k0.at1 [] rfl rfl rfl ⟨lend_plain rfl, trivial⟩ trivial)); refine xZ ?_)
  (apply wP; exact (call_op rfl (entersB_of Tryz.func22 (by kernel_rfl)) rfl (k1.at1 [] rfl rfl rfl ⟨lend_plain rfl, trivial⟩ trivial)); refine xZ ?_)
  refine wTd (by rw [m1]; rfl) ?_
  (refine xG ?_)
  refine wTd (by rw [m2]; rfl) ?_
  (refine xG ?_)
  refine wTd (by rw [m3]; rfl) ?_
  (refine xG ?_)
  refine wTd m4 ?_
  (refine xG ?_)
  refine wTd (by rw [m5]; rfl) ?_
  (refine xG ?_)
  (apply wP; exact (call_op rfl (entersB_of Tryz.func23 (by kernel_rfl)) rfl (total_spec S' (c0 := 2) rfl rfl)); refine xZ ?_)
  exact wD (Ends.plain (.inr rfl) rfl (by rw [m6]; rfl))
end Go.Proofs.YtnpkdoggfnlapaaGreatDoor
namespace Go.Proofs.YtnpkdoggfnlapaaGreatDoor
set_option maxRecDepth 100000
open Go.Sx
def OutM.v (c : OutM) : Value := .agg c.cells.toArray
theorem OutM.inj (a b : OutM) (h : a.v = b.v) : a = b := by
  have h : a.cells = b.cells := by
    have := congrArg (fun v => v.cells.toList) h
    simpa [OutM.v, Value.cells] using this
  obtain ⟨⟨_, _, _, _, _, _, _, _⟩, _⟩ := a
  obtain ⟨⟨_, _, _, _, _, _, _, _⟩, _⟩ := b
  simp only [OutM.cells, H8.cells, List.cons_append, List.nil_append, List.cons.injEq] at h
  obtain ⟨h0, h1, h2, h3, h4, h5, h6, h7, h8, _⟩ := h
  rw [u8_inj h0, u8_inj h1, u8_inj h2, u8_inj h3, u8_inj h4, u8_inj h5, u8_inj h6, u8_inj h7, i64_inj h8]
end Go.Proofs.YtnpkdoggfnlapaaGreatDoor
namespace Go.Proofs.YtnpkdoggfnlapaaGreatDoor
set_option maxRecDepth 100000
open Go.Sx
theorem goes_sized {x : SideM} (h1 : x.par = mp) (h2 : x.cert.outs.length ≤ 1000) (h3 : x.cert.sigs.length ≤ 1000) (h4 : x.used = []) : x.Sized :=
  ⟨by rw [h1, mp_len]; decide, by omega, by omega, by rw [h4]; exact Nat.zero_le _⟩
end Go.Proofs.YtnpkdoggfnlapaaGreatDoor
namespace Go.Proofs.YtnpkdoggfnlapaaGreatDoor
set_option maxRecDepth 100000
open Go.Sx
def paidL : List H8 := [⟨28, 174, 45, 143, 242, 11, 104, 50⟩, ⟨61, 127, 230, 32, 36, 196, 140, 89⟩, ⟨31, 26, 121, 26, 187, 230, 174, 96⟩, ⟨153, 234, 194, 71, 49, 181, 120, 100⟩, ⟨24, 1, 61, 156, 149, 0, 181, 252⟩, ⟨50, 14, 26, 161, 237, 181, 135, 85⟩, ⟨126, 164, 204, 159, 36, 174, 17, 176⟩, ⟨135, 232, 234, 11, 68, 86, 192, 73⟩, ⟨81, 219, 172, 133, 248, 21, 215, 57⟩, ⟨186, 196, 19, 102, 152, 114, 106, 193⟩, ⟨4, 135, 44, 25, 15, 251, 79, 14⟩, ⟨5, 118, 158, 189, 69, 199, 149, 105⟩, ⟨195, 178, 203, 52, 199, 73, 36, 46⟩, ⟨3, 50, 186, 25, 65, 14, 75, 99⟩, ⟨183, 248, 174, 208, 98, 184, 154, 211⟩, ⟨237, 41, 236, 59, 219, 128, 25, 237⟩, ⟨61, 224, 148, 196, 95, 179, 37, 170⟩, ⟨150, 35, 165, 166, 193, 32, 128, 200⟩, ⟨190, 16, 138, 96, 52, 94, 43, 192⟩, ⟨144, 19, 148, 211, 90, 232, 23, 70⟩, ⟨214, 60, 211, 233, 15, 107, 217, 84⟩, ⟨174, 39, 255, 163, 104, 29, 182, 141⟩, ⟨186, 221, 214, 141, 72, 148, 223, 136⟩, ⟨23, 14, 179, 192, 62, 142, 209, 53⟩, ⟨14, 132, 3, 201, 95, 182, 57, 205⟩, ⟨230, 255, 25, 190, 111, 26, 19, 202⟩, ⟨205, 83, 233, 171, 44, 208, 174, 7⟩, ⟨73, 185, 215, 93, 51, 27, 228, 167⟩, ⟨151, 159, 109, 205, 176, 223, 44, 211⟩, ⟨192, 31, 199, 231, 64, 82, 120, 65⟩, ⟨224, 204, 121, 24, 216, 202, 204, 234⟩, ⟨91, 227, 106, 156, 144, 90, 184, 177⟩, ⟨148, 197, 158, 29, 93, 232, 125, 58⟩, ⟨39, 159, 32, 23, 68, 166, 84, 138⟩, ⟨231, 82, 142, 235, 123, 89, 189, 1⟩, ⟨188, 67, 7, 69, 21, 242, 67, 43⟩, ⟨23, 215, 231, 121, 208, 80, 88, 170⟩, ⟨25, 219, 216, 56, 74, 197, 90, 160⟩, ⟨37, 19, 46, 104, 174, 131, 121, 85⟩, ⟨16, 216, 21, 8, 130, 96, 175, 242⟩, ⟨174, 11, 82, 27, 73, 171, 97, 68⟩, ⟨113, 14, 74, 233, 239, 227, 131, 80⟩, ⟨208, 47, 85, 23, 239, 250, 164, 254⟩, ⟨108, 87, 128, 133, 107, 200, 204, 219⟩, ⟨143, 98, 230, 121, 218, 25, 232, 180⟩, ⟨55, 133, 199, 176, 187, 122, 246, 35⟩, ⟨198, 128, 114, 41, 81, 218, 22, 27⟩, ⟨172, 196, 133, 197, 109, 213, 191, 12⟩, ⟨214, 157, 186, 133, 154, 55, 87, 4⟩, ⟨1, 82, 246, 17, 143, 15, 152, 55⟩, ⟨247, 213, 118, 130, 247, 237, 155, 40⟩, ⟨34, 7, 167, 8, 176, 66, 130, 37⟩, ⟨141, 220, 91, 9, 192, 122, 46, 207⟩, ⟨59, 126, 23, 3, 140, 43, 84, 231⟩, ⟨201, 214, 134, 149, 213, 249, 90, 187⟩, ⟨243, 140, 136, 227, 172, 86, 39, 189⟩, ⟨0, 170, 89, 247, 88, 61, 216, 65⟩, ⟨58, 80, 77, 15, 26, 221, 172, 237⟩, ⟨188, 82, 180, 203, 229, 62, 245, 74⟩, ⟨105, 94, 130, 166, 157, 42, 246, 204⟩, ⟨180, 7, 55, 0, 50, 155, 182, 82⟩, ⟨36, 241, 43, 157, 148, 107, 159, 152⟩, ⟨154, 225, 164, 142, 127, 28, 198, 109⟩, ⟨202, 157, 212, 88, 151, 193, 250, 43⟩]
def paidC (s e : Nat) : H8 := paidL.getD (8 * s + e) default
def bytes1 (s : Nat) : List UInt8 := [UInt8.ofNat s]
def bytes4 (e : Nat) : List UInt8 := [UInt8.ofNat e, 0, 0, 0]
theorem bytes1_eq : ∀ s, s < 8 → numL ((s : Nat) : Int) 1 = bytes1 s := by decide
theorem bytes4_eq : ∀ e, e < 8 → numL ((e : Nat) : Int) 4 = bytes4 e := by decide
noncomputable def ptest (i : Nat) : Bool := fdig 119 [bytes1 (i / 8), bytes4 (i % 8), finH.l] (isH (paidL.getD i default))
noncomputable def pall : Nat → Bool
  | 0 => true
  | n + 1 => ptest n && pall n
theorem pall_at : ∀ {n : Nat}, pall n = true → ∀ i, i < n → ptest i = true
  | n + 1, h, i, hi => by
    rw [pall, Bool.and_eq_true] at h
    by_cases e : i = n
    · rw [e]; exact h.1
    · exact pall_at h.2 i (by omega)
theorem pall64 : pall 64 = true := by kernel_rfl
theorem paid_is {s e : Nat} (hs : s < 8) (he : e < 8) : paidH (s : Int) (e : Int) finH = paidC s e := by
  have h := pall_at pall64 (8 * s + e) (by omega)
  rw [ptest, fdig_eq, show (8 * s + e) / 8 = s by omega, show (8 * s + e) % 8 = e by omega] at h
  rw [paidH, bytes1_eq s hs, bytes4_eq e he]
  exact of_isH h
def apartH : List H8 → Bool
  | [] => true
  | h :: r => !(r.any (isH h)) && apartH r
theorem isH_self (h : H8) : isH h h = true := by simp [isH, Nat.beq_eq]
theorem apartH_at : ∀ {l : List H8}, apartH l = true → ∀ i j, i < j → j < l.length → l.getD i default ≠ l.getD j default
  | h :: r, ha, i, j, hij, hj => by
    rw [apartH, Bool.and_eq_true, Bool.not_eq_true'] at ha
    obtain ⟨j, rfl⟩ : ∃ k, j = k + 1 := ⟨j - 1, by omega⟩
    rcases i with _ | i
    · intro e
      have e' : h = r.getD j default := e
      have hm : r.getD j default ∈ r := by
        rw [List.getD_eq_getElem?_getD, List.getElem?_eq_getElem (by simpa using hj)]
        exact List.getElem_mem _
      have : r.any (isH h) = true := List.any_eq_true.2 ⟨_, hm, by rw [← e']; exact isH_self h⟩
      rw [this] at ha; cases ha.1
    · exact apartH_at ha.2 i j (by omega) (by simpa using hj)
theorem paidL_apart : apartH paidL = true := by kernel_rfl
theorem paid_ne {s e s' e' : Nat} (hs : s < 8) (he : e < 8) (hs' : s' < 8) (he' : e' < 8) (h : s ≠ s' ∨ e ≠ e') : paidH (s : Int) (e : Int) finH ≠ paidH (s' : Int) (e' : Int) finH := by
  rw [paid_is hs he, paid_is hs' he']
  have hl : paidL.length = 64 := rfl
  rcases Nat.lt_trichotomy (8 * s + e) (8 * s' + e') with h1 | h1 | h1
  · exact apartH_at paidL_apart _ _ h1 (by rw [hl]; omega)
  · omega
  · exact fun e => apartH_at paidL_apart _ _ h1 (by rw [hl]; omega) e.symm
end Go.Proofs.YtnpkdoggfnlapaaGreatDoor
namespace Go.Proofs.YtnpkdoggfnlapaaGreatDoor
set_option maxRecDepth 100000
open Go.Sx
def po (e : Nat) : Plan14 := ⟨0, (e : Int), 1, [Int64.ofNat (10 + e)], [0, 1], 0⟩
def mat10 : Nat → Int
  | 0 => 0
  | n + 1 => mat10 n + 10 + (n : Int)
def overN (h : Nat) : Nat := (h - 6) / 4
def waits (stop b h : Nat) : Bool := decide (b = 0 ∧ 9 ≤ h ∧ (h - 9) % 4 = 0 ∧ (h - 9) / 4 < stop)
structure Once (stop b h : Nat) (x : SideM) (S : USet) : Prop where
  par : x.par = mp
  made : x.made = 3
  used : x.used = []
  mat : x.mat = mat10 (min (overN h) stop)
  bal : x.bal = 900 - mat10 (min (overN h) stop)
  tot : S.total = mat10 (min (overN h) stop)
  steps : S.steps.length ≤ overN h
  goes : overN h ≤ stop → x.ceased = false
  gone : stop < overN h → x.ceased = true ∧ x.hgt = ((9 + 4 * stop : Nat) : Int)
  pend : x.pend = waits stop b h
  cert : waits stop b h = true → x.cert = make14 (po ((h - 9) / 4))
  few : x.cert.outs.length ≤ 1 ∧ x.cert.sigs.length ≤ 2
  fresh : ∀ e, e < 8 → min (overN h) stop ≤ e → mget S.coins (ptAt (paidH 0 (e : Int) finH) 0) = none
theorem Once.sized {stop b h : Nat} {x : SideM} {S : USet} (h : Once stop b h x S) : x.Sized :=
  goes_sized h.par (by have := h.few; omega) (by have := h.few; omega) h.used
end Go.Proofs.YtnpkdoggfnlapaaGreatDoor
namespace Go.Proofs.YtnpkdoggfnlapaaGreatDoor
set_option maxRecDepth 100000
open Go.Sx
theorem lend_insN {M : Mem} {rd : List Nat} {c j m k k' n e sz : Nat} {l : List Chunk} {f g : Nat → List Value} (hkk : k' = k) (hm : M.get c = some (.abs (PackP l))) (hrd : nmem c rd = true) (hml : m = l.length) (hl : l[j]? = some (.vec e sz n f)) (hk : k ≤ n) (hg : ∀ i, i < k → g i = f i) : Lends M rd (.one (.ins c m j k')) (.row sz k g) := by
  subst hkk; exact lend_ins hm hrd hml hl hk hg
end Go.Proofs.YtnpkdoggfnlapaaGreatDoor
namespace Go.Proofs.YtnpkdoggfnlapaaGreatDoor
set_option maxRecDepth 100000
open Go.Sx
structure KeepX (x : SideM) : Prop where
  par : x.par = mp
  made : x.made = 3
  used : x.used = []
  bal0 : 0 ≤ x.bal
  mat0 : 0 ≤ x.mat
  fwd : x.fwd = x.bal + x.mat
  cap : x.fwd ≤ 1099511627776
  outs : x.cert.outs.length ≤ 16
  sigs : x.cert.sigs.length ≤ 5
  wait : x.pend = true → x.ceased = false → (∀ o ∈ x.cert.outs, 1 ≤ o.amt.toInt) ∧ sumO x.cert.outs ≤ x.bal ∧ x.cert.fin = finH
theorem KeepX.sized {x : SideM} (h : KeepX x) : x.Sized := goes_sized h.par (by have := h.outs; omega) (by have := h.sigs; omega) h.used
def matS : List SideM → Int
  | [] => 0
  | x :: r => x.mat + matS r
theorem matS_set {y : SideM} : ∀ (L : List SideM) (i : Nat), i < L.length → matS (L.set i y) = matS L - (L.getD i default).mat + y.mat := by
  intro L
  induction L with
  | nil => intro i h; exact absurd h (Nat.not_lt_zero _)
  | cons x r ih =>
    intro i h
    rcases i with _ | i
    · rw [List.set_cons_zero, matS, matS, List.getD_cons_zero]; omega
    · rw [List.set_cons_succ, matS, matS, ih i (by simpa using h), List.getD_cons_succ]; omega
theorem matS_le : ∀ {L : List SideM}, (∀ x ∈ L, 0 ≤ x.mat ∧ x.mat ≤ 1099511627776) → 0 ≤ matS L ∧ matS L ≤ 1099511627776 * (L.length : Int)
  | [], _ => ⟨Int.le_refl 0, by simp [matS]⟩
  | x :: r, h => by
    have h1 := h x (List.mem_cons_self ..)
    have h2 := matS_le fun y hy => h y (List.mem_cons_of_mem _ hy)
    rw [matS, List.length_cons]; omega
theorem mem_getD {L : List SideM} {x : SideM} (h : x ∈ L) : ∃ i, i < L.length ∧ L.getD i default = x := by
  obtain ⟨i, hi, rfl⟩ := List.mem_iff_getElem.1 h
  exact ⟨i, hi, by rw [List.getD_eq_getElem?_getD, List.getElem?_eq_getElem hi]; rfl⟩
theorem set_getD {L : List SideM} {i j : Nat} {y : SideM} (hi : i < L.length) : (L.set i y).getD j default = if j = i then y else L.getD j default := by
  rw [List.getD_eq_getElem?_getD, List.getD_eq_getElem?_getD]
  by_cases h : j = i
  · subst h
    rw [if_pos rfl, List.getElem?_set_self hi]; rfl
  · rw [if_neg h, List.getElem?_set_ne (fun e => h e.symm)]
def freeN (S : USet) (i e : Nat) : Prop := ∀ k, k < 256 → mget S.coins (ptAt (paidH (i : Int) (e : Int) finH) k) = none
structure KeepL (L : List SideM) (S : USet) (h : Nat) : Prop where
  all : ∀ i, i < L.length → KeepX (L.getD i default)
  len : L.length ≤ 8
  tot : S.total = matS L
  free : ∀ i e, i < 8 → e < 8 → overN h ≤ e → freeN S i e
  steps : S.steps.length ≤ 128 * overN h
theorem KeepL.mats {L : List SideM} (ha : ∀ i, i < L.length → KeepX (L.getD i default)) (hl : L.length ≤ 8) : 0 ≤ matS L ∧ matS L ≤ 8796093022208 := by
  have h := matS_le (L := L) fun x hx => by
    obtain ⟨i, hi, rfl⟩ := mem_getD hx
    have k := ha i hi
    have := k.fwd; have := k.cap; have := k.bal0; have := k.mat0
    omega
  omega
theorem keep_set {L : List SideM} {i : Nat} {y : SideM} (hi : i < L.length) (ha : ∀ i, i < L.length → KeepX (L.getD i default)) (hy : KeepX y) : ∀ j, j < (L.set i y).length → KeepX ((L.set i y).getD j default) := fun j hj => by
  rw [set_getD hi]
  split
  · exact hy
  · exact ha j (by rwa [List.length_set] at hj)
theorem cert_amts {c : CertM} (h : certOK c = true) : (∀ o ∈ c.outs, 1 ≤ o.amt.toInt) ∧ c.outs.length ≤ 16 ∧ c.sigs.length ≤ 5 := by
  obtain ⟨-, -, h3, h4⟩ := certOK_all.1 h
  have h5 := outsOK_len h3
  refine ⟨fun o ho => ?_, h5, by omega⟩
  rw [outsOK, Bool.and_eq_true] at h3
  have h6 := List.all_eq_true.1 h3.1 o ho
  rw [outOK, Bool.and_eq_true, moneyB, within_iff] at h6
  exact h6.2.1
theorem keep_take {L : List SideM} {S : USet} {h : Nat} (H : KeepL L S h) (c : CertM) : KeepL (takeC L c (h : Int) finH).1 S h ∧ (takeC L c (h : Int) finH).1.length = L.length := by
  by_cases h0 : checkC L c (h : Int) finH = 0
  · have ht : takeC L c (h : Int) finH = (L.set c.side.toNat (waitX (L.getD c.side.toNat default) c), 0) := by rw [takeC, if_pos h0]
    obtain ⟨h1, h2, h3, -⟩ := checkC_zero h0
    obtain ⟨-, ⟨⟨s1, s2⟩, -, -⟩, -⟩ := certOK_all.1 h1
    have hi : c.side.toNat < L.length := by omega
    obtain ⟨a1, a2, a3⟩ := cert_amts h1
    have kx := H.all _ hi
    obtain ⟨x, hx⟩ : ∃ x, L.getD c.side.toNat default = x := ⟨_, rfl⟩
    rw [hx] at kx h3
    have hf : (sumM 0 (outAmts c.outs c.outs.length)).isSome = true ∧ (sumM 0 (outAmts c.outs c.outs.length)).getD 0 ≤ x.bal ∧ c.fin = finH := by
      unfold fitsX at h3
      by_cases q1 : x.ceased = true
      · rw [if_pos q1] at h3; exact absurd h3 (by decide)
      rw [if_neg q1] at h3
      by_cases q2 : (!openX x c.ep (h : Int) || decide (c.fin ≠ finH)) = true
      · rw [if_pos q2] at h3; exact absurd h3 (by decide)
      rw [if_neg q2] at h3
      by_cases q3 : (x.pend && decide (c.qual ≤ x.cert.qual)) = true
      · rw [if_pos q3] at h3; exact absurd h3 (by decide)
      rw [if_neg q3] at h3
      by_cases q4 : (!(sumM 0 (outAmts c.outs c.outs.length)).isSome || decide (x.bal < (sumM 0 (outAmts c.outs c.outs.length)).getD 0)) = true
      · rw [if_pos q4] at h3; exact absurd h3 (by decide)
      simp only [Bool.or_eq_true, Bool.not_eq_true', decide_eq_true_eq, not_or, Bool.not_eq_false, Int.not_lt] at q4
      simp only [Bool.or_eq_true, Bool.not_eq_true', decide_eq_true_eq, not_or, Bool.not_eq_false, ne_eq, Decidable.not_not] at q2
      exact ⟨q4.1, q4.2, q2.2⟩
    have hsum : sumO c.outs ≤ x.bal := by
      obtain ⟨v, hv⟩ := Option.isSome_iff_exists.1 hf.1
      have h4 := (sumM_some hv).1
      rw [sumO_amts] at h4
      have h5 := hf.2.1
      rw [hv] at h5
      have h6 : v ≤ x.bal := h5
      omega
    have kw : KeepX (waitX x c) := ⟨kx.par, kx.made, kx.used, kx.bal0, kx.mat0, kx.fwd, kx.cap, a2, a3, fun _ _ => ⟨a1, hsum, hf.2.2⟩⟩
    rw [ht, hx]
    refine ⟨⟨keep_set hi H.all kw, by rw [List.length_set]; exact H.len, ?_, H.free, H.steps⟩, List.length_set ..⟩
    rw [matS_set _ _ hi, hx, H.tot]
    show _ = _ - x.mat + x.mat
    omega
  · have ht : takeC L c (h : Int) finH = (L, checkC L c (h : Int) finH) := by rw [takeC, if_neg h0]
    rw [ht]
    exact ⟨H, rfl⟩
structure KeepM (L : List SideM) (S : USet) (h i : Nat) : Prop where
  all : ∀ j, j < L.length → KeepX (L.getD j default)
  tot : S.total = matS L
  free : ∀ j e, j < 8 → e < 8 → overN h ≤ e → (dueN h = true → overN h < e ∨ i ≤ j) → freeN S j e
  steps : S.steps.length ≤ 128 * overN h + (if dueN h = true then 16 * i else 0)
theorem over_due {h : Nat} (hd : dueN h = true) : overN h = (h - 9) / 4 ∧ overN (h + 1) = overN h + 1 ∧ 9 ≤ h ∧ (h - 9) % 4 = 0 := by
  rw [dueN, Bool.and_eq_true, decide_eq_true_eq, decide_eq_true_eq] at hd
  rw [overN, overN]; omega
theorem over_not {h : Nat} (hd : dueN h = false) (h4 : 4 ≤ h) : overN (h + 1) = overN h := by
  rw [dueN, Bool.and_eq_false_iff, decide_eq_false_iff_not, decide_eq_false_iff_not] at hd
  rw [overN, overN]; omega
theorem keep_one {L : List SideM} {S : USet} {h i : Nat} (h4 : 4 ≤ h) (h40 : h < 40) (hl : L.length ≤ 8) (hi : i < L.length) (M : KeepM L S h i) :
    ∃ L' S', endOne (Int64.ofNat h) i L S (L.getD i default) = ((L', S'), 0) ∧ L'.length = L.length ∧ KeepM L' S' h (i + 1) := by
  have hhi : (Int64.ofNat h).toInt = (h : Int) := toInt_ofNat (by omega)
  have kx := M.all i hi
  obtain ⟨x, hx⟩ : ∃ x, L.getD i default = x := ⟨_, rfl⟩
  rw [hx] at kx ⊢
  have stay : ∀ S', S' = S → KeepM L S' h (i + 1) := fun S' e => by
    subst e
    refine ⟨M.all, M.tot, fun j e hj he h1 h2 => M.free j e hj he h1 fun hd => ?_, ?_⟩
    · have := h2 hd; omega
    · have := M.steps; split at this <;> split <;> first | omega | (rename_i a b; exact absurd a b) | (rename_i a b; exact absurd b a)
  by_cases hce : x.ceased = true
  · exact ⟨L, S, endOne_idle (by rw [due_ceased hce]), rfl, stay S rfl⟩
  have hce' : x.ceased = false := by simpa using hce
  have hg : Goes x := ⟨kx.par, kx.made, hce'⟩
  have hd := due_mp hg (h := h) (by omega)
  by_cases hdue : dueN h = true
  · obtain ⟨o1, o2, o3, o4⟩ := over_due hdue
    obtain ⟨e0, he0⟩ : ∃ e, (h - 9) / 4 = e := ⟨_, rfl⟩
    have he8 : e0 < 8 := by omega
    have hst := M.steps
    rw [if_pos hdue] at hst
    by_cases hpay : x.pend = true ∧ x.cert.ep = (e0 : Int)
    · obtain ⟨w1, w2, w3⟩ := kx.wait hpay.1 hce'
      have hcp : CanPay x := ⟨w1, kx.outs, w2⟩
      have hml := KeepL.mats M.all hl
      have hb0 := kx.bal0; have hm0 := kx.mat0; have hf := kx.fwd; have hc := kx.cap
      have hs0 := sumO_nonneg w1
      have hfr : freeN S i e0 := M.free i e0 (by omega) he8 (by omega) (fun _ => .inr (Nat.le_refl _))
      obtain ⟨S', hpg, hS⟩ := pay_plain (x := x) (S := S) (i := (i : Int)) (h := Int64.ofNat h) hcp (by rw [M.tot]; exact hml.1) (by rw [M.tot]; omega) (fun k hk => by
        rw [hpay.2, w3, Nat.zero_add]
        have := kx.outs
        exact hfr k (by omega))
      have hv := pay_vals hcp (by omega) (by omega)
      have hone : endOne (Int64.ofNat h) i L S x = ((L.set i (payX x), S'), 0) :=
        endOne_pay (by rw [hhi]; exact hd.1.trans hdue) hpay.1 (by rw [hhi, hd.2 hdue, hpay.2, he0]) hpg
      have kp : KeepX (payX x) := by
        rw [hv]
        exact ⟨kx.par, kx.made, kx.used, show 0 ≤ x.bal - _ by omega, show 0 ≤ x.mat + _ by omega, show x.fwd = (x.bal - _) + (x.mat + _) by omega, kx.cap, Nat.zero_le _, Nat.zero_le _, fun a => absurd a (by simp)⟩
      have hmat : (payX x).mat = x.mat + sumO x.cert.outs := by rw [hv]
      refine ⟨_, _, hone, List.length_set .., keep_set hi M.all kp, ?_, fun j e hj he h1 h2 => ?_, ?_⟩
      · rw [matS_set _ _ hi, hx, hmat, hS.total, M.tot]; omega
      · have h3 := h2 hdue
        intro k hk
        rw [hS.old _ (fun q hq => ?_)]
        · exact M.free j e hj he h1 (fun _ => by omega) k hk
        · rw [hpay.2, w3]
          refine ptAt_id (paid_ne hj he (by omega) he8 ?_)
          omega
      · rw [if_pos hdue, hS.steps]
        have := kx.outs
        omega
    · have hone : endOne (Int64.ofNat h) i L S x = ((L.set i (ceaseX x (h : Int)), S), 0) := by
        have := endOne_cease (h := Int64.ofNat h) (i := i) (L := L) (S := S) (x := x) (by rw [hhi]; exact hd.1.trans hdue) (by
          rw [hhi, hd.2 hdue, he0]
          by_cases hp : x.pend = true
          · exact .inr fun e => hpay ⟨hp, e⟩
          · exact .inl (by simpa using hp))
        rw [this, hhi]
      have kc : KeepX (ceaseX x (h : Int)) := ⟨kx.par, kx.made, kx.used, kx.bal0, kx.mat0, kx.fwd, kx.cap, kx.outs, kx.sigs, fun _ a => absurd (show true = false from a) (by simp)⟩
      have s2 := stay S rfl
      refine ⟨_, _, hone, List.length_set .., keep_set hi M.all kc, ?_, s2.free, s2.steps⟩
      rw [matS_set _ _ hi, hx, M.tot]
      show _ = _ - x.mat + x.mat
      omega
  · exact ⟨L, S, endOne_idle (by rw [hhi]; exact hd.1.trans (by simpa using hdue)), rfl, stay S rfl⟩
theorem keep_end {L : List SideM} {S : USet} {h : Nat} (h4 : 4 ≤ h) (h40 : h < 40) (H : KeepL L S h) : ∃ L' S', endE (Int64.ofNat h) L S = ((L', S'), 0) ∧ L'.length = L.length ∧ KeepL L' S' (h + 1) := by
  have key : ∀ i, i ≤ L.length → ∃ L' S', endN (Int64.ofNat h) L S i = ((L', S'), 0) ∧ L'.length = L.length ∧ KeepM L' S' h i := by
    intro i
    induction i with
    | zero => exact fun _ => ⟨L, S, rfl, rfl, H.all, H.tot, fun j e hj he h1 _ => H.free j e hj he h1, by have := H.steps; split <;> omega⟩
    | succ i ih =>
      intro hi
      obtain ⟨L', S', e1, e2, M⟩ := ih (by omega)
      obtain ⟨L2, S2, f1, f2, M2⟩ := keep_one h4 h40 (by have := H.len; omega) (by omega) M
      exact ⟨L2, S2, (endN_step e1).trans f1, f2.trans e2, M2⟩
  obtain ⟨L', S', e1, e2, M⟩ := key L.length (Nat.le_refl _)
  have hlen := H.len
  refine ⟨L', S', e1, e2, M.all, by omega, M.tot, fun j e hj he h1 => ?_, ?_⟩
  · by_cases hd : dueN h = true
    · have := over_due hd
      exact M.free j e hj he (by omega) (fun _ => .inl (by omega))
    · have hd' : dueN h = false := by simpa using hd
      have := over_not hd' h4
      exact M.free j e hj he (by omega) (fun h => absurd h hd)
  · have := M.steps
    by_cases hd : dueN h = true
    · have h3 := over_due hd
      rw [if_pos hd] at this
      omega
    · have h3 := over_not (by simpa using hd) h4
      rw [if_neg hd] at this
      omega
theorem sideN_big {m : Int} (h1 : 1 ≤ m) (h2 : m ≤ 1099511627776) : sideN m = { sideA with bal := m, fwd := m } := by
  have hr : roomI m = 1125899906842624 - m := wrap_id (by omega)
  have hok : fwdOKX sideA m = true := by
    have e1 : sideA.bal = 0 := rfl
    have e2 : sideA.fwd = 0 := rfl
    rw [fwdOKX, e1, e2, mayB, hr, decide_eq_false (show ¬ m < 1 by omega), decide_eq_true (show 0 ≤ m by omega), decide_eq_true (show m ≤ 1125899906842624 by omega), decide_eq_false (show ¬ 1125899906842624 - m < 0 by omega)]
    rfl
  have he : fwdE sideA m = 0 := by rw [fwdE, if_neg (by show ¬ false = true; decide), if_pos hok]
  have e1 : IntKind.i64.wrap (sideA.bal + m) = m := by rw [show sideA.bal = 0 from rfl, Int.zero_add]; exact wrap_id (by omega)
  have e2 : IntKind.i64.wrap (sideA.fwd + m) = m := by rw [show sideA.fwd = 0 from rfl, Int.zero_add]; exact wrap_id (by omega)
  rw [sideN, fwdX, if_pos he, e1, e2]
theorem sideN_none {m : Int} (h : m < 1) : sideN m = sideA := by
  have hok : fwdOKX sideA m = false := by rw [fwdOKX, decide_eq_true h]; rfl
  have he : fwdE sideA m = 5 := by rw [fwdE, if_neg (by show ¬ false = true; decide), if_neg (by rw [hok]; simp)]
  rw [sideN, fwdX, if_neg (by rw [he]; decide)]
theorem keep_side {m : Int} (h : m ≤ 1099511627776) : KeepX (sideN m) ∧ (sideN m).mat = 0 := by
  by_cases h1 : 1 ≤ m
  · rw [sideN_big h1 h]
    exact ⟨⟨rfl, rfl, rfl, show 0 ≤ m by omega, Int.le_refl 0, show m = m + 0 by omega, h, Nat.zero_le _, Nat.zero_le _, fun a => absurd (show false = true from a) (by simp)⟩, rfl⟩
  · rw [sideN_none (by omega)]
    exact ⟨⟨rfl, rfl, rfl, Int.le_refl 0, Int.le_refl 0, rfl, show (0 : Int) ≤ 1099511627776 by decide, Nat.zero_le _, Nat.zero_le _, fun a => absurd (show false = true from a) (by simp)⟩, rfl⟩
theorem keep_start15 {money : List Int} (hl : money.length ≤ 8) (hm : ∀ i, i < money.length → money.getD i 0 ≤ 1099511627776) : KeepL (fillL money money.length) USet.empty 4 := by
  have hg : ∀ i, i < money.length → (fillL money money.length).getD i default = sideN (money.getD i 0) := fun i hi => by
    rw [fillL, List.getD_eq_getElem?_getD, List.getElem?_map, List.getElem?_range hi]; rfl
  refine ⟨fun i hi => ?_, by rw [fillL_len]; exact hl, ?_, fun _ _ _ _ _ _ _ => rfl, Nat.zero_le _⟩
  · rw [fillL_len] at hi
    rw [hg i hi]
    exact (keep_side (hm i hi)).1
  · have h0 : ∀ L : List SideM, (∀ x ∈ L, x.mat = 0) → matS L = 0 := by
      intro L
      induction L with
      | nil => exact fun _ => rfl
      | cons x r ih =>
        intro h
        rw [matS, h x (List.mem_cons_self ..), ih fun y hy => h y (List.mem_cons_of_mem _ hy)]
        rfl
    rw [h0 _ fun x hx => ?_]
    · rfl
    · obtain ⟨i, hi, rfl⟩ := mem_getD hx
      rw [fillL_len] at hi
      rw [hg i hi]
      exact (keep_side (hm i hi)).2
end Go.Proofs.YtnpkdoggfnlapaaGreatDoor
namespace Go.Proofs.YtnpkdoggfnlapaaGreatDoor
set_option maxRecDepth 100000
open Go.Sx Go.RowKit Go.ChangeShapes Go.WideShapes Go.ChangeAt
instance : Inhabited Plan14 := ⟨⟨0, 0, 0, [], [], 0⟩⟩
theorem int_dec (cs : List Value) (h : Fits [.int .i64] cs) : ∃ x : Int64, cs = [i64 x] := by
  obtain ⟨_, _, rfl, a0, rfl⟩ := h
  obtain ⟨b0, rfl⟩ := fits_i64 a0
  exact ⟨b0, rfl⟩
theorem ints_cells (l : List Int64) : (fun i => [i64 (l.getD i 0)]) = intsF (l.map Int64.toInt) := by
  funext i
  have : (l.map Int64.toInt).getD i 0 = (l.getD i 0).toInt := by
    rw [List.getD_eq_getElem?_getD, List.getElem?_map, List.getD_eq_getElem?_getD]
    cases l[i]? <;> rfl
  rw [intsF, this]; rfl
section
variable {H : Type} {enc : TypeId × Value → H} {W : World}
theorem open_ints15 {v : Value} {d : DataW H} {p : List MemPlace} (h : DataW.Trod enc Tryz.prog W 0 (fun _ => true) true 66 v d p) (hv : Value.okWide Tryz.prog W .any 0 66 v) : ∃ l : List Int64, l.length ≤ maxLen ∧ RowIn W v 1 l.length (intsF (l.map Int64.toInt)) := by
  obtain ⟨l, h1, h2⟩ := Go.Sx.open_row Tryz.T_ok (t := 66) (e := 3) rfl rfl rfl (f := 8) (ks := [.int .i64]) rfl h hv (fun x => [i64 x]) int_dec 0
  rw [ints_cells] at h2
  exact ⟨l, h1, h2⟩
theorem plan_size : Tryz.prog.cellsOf 3 = 1 ∧ Tryz.prog.cellsOf 66 = 1 ∧ Tryz.prog.cellsOf 73 = 1 ∧ Tryz.prog.cellsOf 5 = 1 := ⟨by kernel_rfl, by kernel_rfl, by kernel_rfl, by kernel_rfl⟩
def planQ (p : Plan14) : Prop := p.am.length ≤ maxLen ∧ p.who.length ≤ maxLen
set_option maxRecDepth 100000 in
theorem plan_dec (n : Nat) (cs : List Value) (y : DataW H × List MemPlace) (h : DataW.trod enc Tryz.prog W 0 (fun _ => true) true n 95 cs = some y) (hl : cs.length = 6) (b0 : Nat) (hb0 : b0 < W.heap.size) :
    ∃ (z : Plan14) (g : Nat → Option Addr × Nat), planQ z ∧ cs = fillA 0 z.ac g ∧ ∀ j y, z.ac[j]? = some y → ∃ v, AC.at W (fun k => k < W.heap.size) y (g j) v := by
  obtain ⟨s1, s2, s3, s4⟩ := plan_size
  obtain ⟨xs, n', _, _, _, hxl, hf⟩ := DataW.trod_struct Tryz.underlying95 h
  match cs, hl with
  | [c0, c1, c2, c3, c4, c5], _ =>
    match xs, hxl with
    | [x0, x1, x2, x3, x4, x5], _ =>
      have e0 : DataW.trod enc Tryz.prog W 0 (fun _ => true) true n' 3 (List.take (Tryz.prog.cellsOf 3) (List.drop 0 [c0, c1, c2, c3, c4, c5])) = some x0 := hf 0 _ rfl
      have e1 : DataW.trod enc Tryz.prog W 0 (fun _ => true) true n' 3 (List.take (Tryz.prog.cellsOf 3) (List.drop 1 [c0, c1, c2, c3, c4, c5])) = some x1 := hf 1 _ rfl
      have e2 : DataW.trod enc Tryz.prog W 0 (fun _ => true) true n' 3 (List.take (Tryz.prog.cellsOf 3) (List.drop 2 [c0, c1, c2, c3, c4, c5])) = some x2 := hf 2 _ rfl
      have e3 : DataW.trod enc Tryz.prog W 0 (fun _ => true) true n' 66 (List.take (Tryz.prog.cellsOf 66) (List.drop 3 [c0, c1, c2, c3, c4, c5])) = some x3 := hf 3 _ rfl
      have e4 : DataW.trod enc Tryz.prog W 0 (fun _ => true) true n' 73 (List.take (Tryz.prog.cellsOf 73) (List.drop 4 [c0, c1, c2, c3, c4, c5])) = some x4 := hf 4 _ rfl
      have e5 : DataW.trod enc Tryz.prog W 0 (fun _ => true) true n' 5 (List.take (Tryz.prog.cellsOf 5) (List.drop 5 [c0, c1, c2, c3, c4, c5])) = some x5 := hf 5 _ rfl
      rw [s1] at e0 e1 e2
      rw [s2] at e3
      rw [s3] at e4
      rw [s4] at e5
      obtain ⟨y0, k0⟩ := int_dec [c0] (trod_fits Tryz.T_ok 8 3 [.int .i64] rfl n' _ x0 e0)
      obtain ⟨y1, k1⟩ := int_dec [c1] (trod_fits Tryz.T_ok 8 3 [.int .i64] rfl n' _ x1 e1)
      obtain ⟨y2, k2⟩ := int_dec [c2] (trod_fits Tryz.T_ok 8 3 [.int .i64] rfl n' _ x2 e2)
      obtain ⟨l3, p3, b3, k3, v3⟩ := row_in_cell Tryz.T_ok (t := 66) (e := 3) rfl rfl rfl (by decide) (f := 8) (ks := [.int .i64]) rfl (cs := [c3]) e3 hb0 (fun x => [i64 x]) int_dec 0
      obtain ⟨l4, p4, b4, k4, v4⟩ := row_in_cell Tryz.T_ok (t := 73) (e := 5) rfl rfl rfl (by decide) (f := 8) (ks := [.int .u8]) rfl (cs := [c4]) e4 hb0 (fun x => [u8 x]) byte_dec 0
      obtain ⟨y5, k5⟩ := byte_dec [c5] (trod_fits Tryz.T_ok 8 5 [.int .u8] rfl n' _ x5 e5)
      simp only [List.cons.injEq, and_true] at k0 k1 k2 k3 k4 k5
      subst k0 k1 k2 k3 k4 k5
      rw [ints_cells] at v3
      refine ⟨⟨y0.toInt, y1.toInt, y2.toInt, l3, l4, y5⟩, fun j => if j = 3 then p3 else p4, ⟨b3, b4⟩, rfl, fun j y hy => ?_⟩
      match j, hy with
      | 0, hy => obtain rfl := Option.some.inj hy; exact ⟨_, rfl⟩
      | 1, hy => obtain rfl := Option.some.inj hy; exact ⟨_, rfl⟩
      | 2, hy => obtain rfl := Option.some.inj hy; exact ⟨_, rfl⟩
      | 3, hy => obtain rfl := Option.some.inj hy; exact v3
      | 4, hy => obtain rfl := Option.some.inj hy; exact v4
      | 5, hy => obtain rfl := Option.some.inj hy; exact ⟨_, rfl⟩
      | j + 6, hy => simp [Plan14.ac] at hy
theorem open_plans {v : Value} {d : DataW H} {p : List MemPlace} (h : DataW.Trod enc Tryz.prog W 0 (fun _ => true) true 91 v d p) (hv : Value.okWide Tryz.prog W .any 0 91 v) :
    ∃ (l : List Plan14) (ad : Nat → Nat → Option Addr × Nat), l.length ≤ maxLen ∧ (∀ i, i < l.length → planQ (l.getD i default)) ∧ Sx.Came W v (.deep 6 l.length (fun i => (l.getD i default).ac) ad) := by
  obtain ⟨fuel, hf⟩ := h
  have hv' : Cell.okWide Tryz.prog W .any 0 91 v := by
    simp only [Value.okWide, Tryz.underlying91] at hv
    exact hv
  have hc : v.cells.toList = [v] := by
    cases v with
    | agg cs => simp [Cell.okWide, Cell.ok, Tryz.underlying91] at hv'
    | _ => rfl
  rw [hc] at hf
  exact open_deep Tryz.T_ok (t := 91) (e := 95) rfl rfl rfl (by decide) hf hv' Plan14.ac planQ (fun n cs y h1 h2 b0 hb => plan_dec n cs y h1 h2 b0 hb) default
end
end Go.Proofs.YtnpkdoggfnlapaaGreatDoor
namespace Go.Proofs.YtnpkdoggfnlapaaGreatDoor
set_option maxRecDepth 100000
open Go.Sx
theorem lend_planE {M : Mem} {rd : List Nat} {q n i : Nat} {l : List Plan14} {ad : Nat → Nat → Option Addr × Nat} (hm : M.get q = some (.ext (PartsE n (fun i => (l.getD i default).ac) ad))) (hrd : nmem q rd = true) (hi : i < n) : Lends M rd (.agg ((fillA 0 (l.getD i default).ac (ad i)).map .raw)) (.box (l.getD i default).ac) :=
  lend_plan14 (p := l.getD i default) (k := .raw (.slice (ad i 3).1 _ (ad i 3).2)) (s := .raw (.slice (ad i 4).1 _ (ad i 4).2)) (lend_partE (F := fun i => (l.getD i default).ac) (j := 3) hm hrd hi rfl) (lend_partE (F := fun i => (l.getD i default).ac) (j := 4) hm hrd hi rfl)
theorem matS_take {L : List SideM} {i : Nat} (hi : i < L.length) : matS (L.take (i + 1)) = matS (L.take i) + (L.getD i default).mat := by
  have key : ∀ (A : List SideM) (x : SideM), matS (A ++ [x]) = matS A + x.mat := by
    intro A x
    induction A with
    | nil => show x.mat + 0 = 0 + x.mat; omega
    | cons y r ih => rw [List.cons_append, matS, ih, matS]; omega
  rw [List.take_add_one, List.getElem?_eq_getElem hi, List.getD_eq_getElem?_getD, List.getElem?_eq_getElem hi]
  exact key _ _
theorem matS_part {L : List SideM} (ha : ∀ i, i < L.length → KeepX (L.getD i default)) (hl : L.length ≤ 8) (i : Nat) : 0 ≤ matS (L.take i) ∧ matS (L.take i) ≤ 8796093022208 := by
  have h := matS_le (L := L.take i) fun x hx => by
    obtain ⟨j, hj, rfl⟩ := mem_getD (List.mem_of_mem_take hx)
    have k := ha j hj
    have := k.fwd; have := k.cap; have := k.bal0; have := k.mat0
    omega
  have h2 : (L.take i).length ≤ 8 := by rw [List.length_take]; omega
  omega
def pkM (money : List Int) (l : List Plan14) (ad : Nat → Nat → Option Addr × Nat) : Mem :=
  [(0, .ro 1 money.length (intsF money)), (1, .ro 6 l.length fun k => fillA 0 (l.getD k default).ac (ad k)), (2, .ext (PartsE l.length (fun i => (l.getD i default).ac) ad)), (4, .ext stepsP)]
def pk0 (money : List Int) (l : List Plan14) (ad : Nat → Nat → Option Addr × Nat) (n : UInt8) (i : Nat) : St :=
  ⟨[some (XV.sv (.slc 0 1 0 money.length)), some (XV.sv (.slc 1 6 0 l.length)), some (XV.val (u8 n)), none, none, none, none, some (XV.int .i64 i)] ++ List.replicate 118 none, pkM money l ad, 5⟩
def pkS (money : List Int) (l : List Plan14) (ad : Nat → Nat → Option Addr × Nat) (n : UInt8) (L : List SideM) (S : USet) (h k m i : Option XV) : St :=
  ⟨[none, some (XV.sv (.slc 1 6 0 l.length)), some (XV.val (u8 n)), none, none, none, none, none, some (XV.sv (.ptr 5 0 0 0)), none, some (XV.sv (.ptr 6 0 0 0)), h, k, m, i] ++ List.replicate 111 none, pkM money l ad ++ [(5, .abs (pReg L)), (6, .abs (usetP S))], 7⟩
structure KeepsI where
  h : Nat
  L : List SideM
  S : USet
  lo : 4 ≤ h
  hi : h ≤ 34
  keep : KeepL L S h
structure KeepsK (S : USet) (h n : Nat) where
  k : Nat
  L : List SideM
  le : k ≤ n
  keep : KeepL L S h
set_option maxHeartbeats 16000000 in
theorem payoutKeeps_walk (money : List Int) (l : List Plan14) (ad : Nat → Nat → Option Addr × Nat) (n : UInt8) (hm : money.length ≤ maxLen) (hl : l.length ≤ maxLen) (hq : ∀ i, i < l.length → planQ (l.getD i default)) :
    Reads Tryz.prog 8 [.row 1 money.length (intsF money), .deep 6 l.length (fun i => (l.getD i default).ac) ad, .plain (.one (.raw (u8 n)))] [stepsP] (XV.bool true) := by
  refine Reads.of Tryz.T_ok Tryz.func8 rfl _ _ _ rfl rfl (fun C hC => ?_)
  (replace hC : C.n0 = 5 := hC; change Tri _ _ _ ⟨_, _, 5⟩ _)
  (refine Tri.cut 3 Tryz.mixed Tryz.T_ok ?_; refine xZ ?_)
  (apply wP; exact (call_op rfl (entersB_of Tryz.func26 (by kernel_rfl)) rfl (awake15.at [4] trivial ⟨lend_ext (c := 4) rfl rfl, trivial⟩)); refine xZ ?_)
  refine wC (fun g1 => ?_) (fun g1 => ?_)
  · (refine xG ?_)
    exact wD <| cutR <| Ends.plain (.inr rfl) rfl rfl
  (refine xG ?_)
  refine wC (fun g2 => ?_) (fun g2 => ?_)
  · (refine xG ?_)
    exact wD <| cutR <| Ends.plain (.inr rfl) rfl rfl
  have hm8 : money.length ≤ 8 := by have := of_decide_eq_false g1; omega
  have hl6 : l.length ≤ 6 := by have := of_decide_eq_false g2; omega
  clear g1 g2
  (refine xG ?_)
  refine wD <| cutG <| Tri.seq ?_
  (refine Tri.cut 1 Tryz.mixed Tryz.T_ok ?_; refine xZ ?_)
  refine wD <| cutG <| Tri.block ?_
  refine Tri.loop (α := { i : Nat // i ≤ money.length ∧ ∀ j, j < i → money.getD j 0 ≤ 1099511627776 }) (fun i => pk0 money l ad n i.1) (fun i => money.length - i.1) ⟨0, Nat.zero_le _, fun j hj => absurd hj (Nat.not_lt_zero _)⟩ ?_ ?_
  · unfold pk0 pkM
    ((try dsimp only); refine Ent.renC [0, 1, 2, 3, 4] hC ?_ ?_ <;> repeat' (first | exact trivial | exact rfl | exact ⟨_, rfl, rfl, rfl, Nat.le_refl _, fun _ _ => rfl⟩ | exact ⟨_, rfl, rfl, rfl, fun _ _ => rfl⟩ | exact ⟨_, rfl, rfl, rfl⟩ | exact ⟨_, rfl, rfl⟩ | refine ⟨_, rfl, rfl, rfl, by omega, fun k hk => ?_⟩ | refine ⟨?_, ?_⟩ | fail))
  rintro ⟨i, hi, hcap⟩
  dsimp only
  unfold pk0 pkM
  (refine Tri.cut 1 Tryz.mixed Tryz.T_ok ?_; refine xZ ?_)
  refine wC (fun c1 => ?_) (fun c1 => ?_)
  · (refine xG ?_)
    have h' : i < money.length := by have := of_decide_eq_true c1; omega
    have hw : IntKind.i64.wrap ((i : Int) + 1) = ((i + 1 : Nat) : Int) := by
      rw [show (i : Int) + 1 = ((i + 1 : Nat) : Int) by omega]; exact wrap_id (by omega)
    refine wD <| cutG <| Tri.seq <| Tri.block <| Tri.of Tryz.mixed Tryz.T_ok ?_
    (refine xB ?_)
    (repeat (refine wN ?_ ?_; exact xW; refine xG ?_))
    simp only [Nat.zero_add, Int.toNat_natCast]
    refine wC (fun c2 => ?_) (fun c2 => ?_)
    · (refine xG ?_)
      exact wD <| blockR <| cutR <| loopR <| blockR <| cutR <| Ends.plain (.inr rfl) rfl rfl
    (refine xG ?_)
    refine wD <| blockN <| cutG <| Tri.of Tryz.mixed Tryz.T_ok ?_
    (refine xB ?_)
    refine wD <| loopN ⟨⟨i + 1, h', fun j hj => ?_⟩, by dsimp only; omega, ?_⟩
    · by_cases e : j = i
      · have := of_decide_eq_false c2; rw [e]; omega
      · exact hcap j (by omega)
    rw [hw]
    ((try dsimp only); refine Ent.renC [0, 1, 2, 3, 4] hC ?_ ?_ <;> repeat' (first | exact trivial | exact rfl | exact ⟨_, rfl, rfl, rfl, Nat.le_refl _, fun _ _ => rfl⟩ | exact ⟨_, rfl, rfl, rfl, fun _ _ => rfl⟩ | exact ⟨_, rfl, rfl, rfl⟩ | exact ⟨_, rfl, rfl⟩ | refine ⟨_, rfl, rfl, rfl, by omega, fun k hk => ?_⟩ | refine ⟨?_, ?_⟩ | fail))
  · (refine xG ?_)
    have h' : i = money.length := by have := of_decide_eq_false c1; omega
    subst h'
    have hks := keep_start15 hm8 hcap
    obtain ⟨L0, hL0⟩ : ∃ L, fillL money money.length = L := ⟨_, rfl⟩
    have kf := fill14_can money hm8
    rw [hL0] at hks kf
    clear c1 hL0
    refine wD <| cutE <| loopX <| blockX <| cutG ?_
    (refine Tri.cut 2 Tryz.mixed Tryz.T_ok ?_; refine xZ ?_)
    (apply wP; exact (call_op rfl (entersB_of Tryz.func29 (by kernel_rfl)) rfl (kf.at [0] ⟨lend_ro0 rfl rfl, trivial⟩ trivial)); refine xZ ?_)
    (apply wP; exact (call_op rfl (entersB_of Tryz.func19 (by kernel_rfl)) rfl (new_spec)); refine xZ ?_)
    refine wD <| cutG <| Tri.ent (Ent.unpack (c := 10) (l := fill14Pack L0) rfl) <| Tri.ent (S' := pkS money l ad n L0 USet.empty none none none none) ?_ ?_
    · unfold pkS pkM
      ((try dsimp only); refine Ent.renC [0, 1, 2, 3, 4, 18, 16] hC ?_ ?_ <;> repeat' (first | exact trivial | exact rfl | exact ⟨_, rfl, rfl, rfl, Nat.le_refl _, fun _ _ => rfl⟩ | exact ⟨_, rfl, rfl, rfl, fun _ _ => rfl⟩ | exact ⟨_, rfl, rfl, rfl⟩ | exact ⟨_, rfl, rfl⟩ | refine ⟨_, rfl, rfl, rfl, by omega, fun k hk => ?_⟩ | refine ⟨?_, ?_⟩ | fail))
    unfold pkS pkM
    obtain ⟨N, hN⟩ : ∃ N, n.toNat % 30 = N := ⟨_, rfl⟩
    have hN30 : N < 30 := by omega
    have hn : IntKind.i64.wrap (4 + Int.tmod (IntKind.i64.wrap ((n.toNat : Nat) : Int)) 30) = ((4 + N : Nat) : Int) := by
      have h3 := n.toNat_lt
      have e1 : IntKind.i64.wrap ((n.toNat : Nat) : Int) = ((n.toNat : Nat) : Int) := wrap_id (by omega)
      have e2 : Int.tmod ((n.toNat : Nat) : Int) 30 = ((n.toNat % 30 : Nat) : Int) := rfl
      rw [e1, e2, hN, show (4 : Int) + (N : Int) = ((4 + N : Nat) : Int) by omega]
      exact wrap_id (by omega)
    clear hN
    (refine Tri.cut 1 Tryz.mixed Tryz.T_ok ?_; refine xZ ?_)
    refine wD <| cutG <| Tri.seq ?_
    (refine Tri.cut 1 Tryz.mixed Tryz.T_ok ?_; refine xZ ?_)
    refine wD <| cutG <| Tri.block ?_
    refine Tri.loop (α := KeepsI) (fun p => pkS money l ad n p.L p.S (some (XV.int .i64 p.h)) none none none) (fun p => 34 - p.h) ⟨4, L0, USet.empty, Nat.le_refl _, by decide, hks⟩ ?_ ?_
    · unfold pkS pkM
      ((try dsimp only); refine Ent.renC [0, 1, 2, 3, 4, 5, 6] hC ?_ ?_ <;> repeat' (first | exact trivial | exact rfl | exact ⟨_, rfl, rfl, rfl, Nat.le_refl _, fun _ _ => rfl⟩ | exact ⟨_, rfl, rfl, rfl, fun _ _ => rfl⟩ | exact ⟨_, rfl, rfl, rfl⟩ | exact ⟨_, rfl, rfl⟩ | refine ⟨_, rfl, rfl, rfl, by omega, fun k hk => ?_⟩ | refine ⟨?_, ?_⟩ | fail))
    clear hks kf
    rintro ⟨h, L, S, h4, h34, hk⟩
    dsimp only
    unfold pkS pkM
    (refine Tri.cut 1 Tryz.mixed Tryz.T_ok ?_; refine xZ ?_)
    simp only [hn]
    refine wC (fun c1 => ?_) (fun c1 => ?_)
    · (refine xG ?_)
      have hlt : h < 4 + N := Int.ofNat_lt.1 (of_decide_eq_true c1)
      have hw : IntKind.i64.wrap ((h : Int) + 1) = ((h + 1 : Nat) : Int) := by
        rw [show (h : Int) + 1 = ((h + 1 : Nat) : Int) by omega]; exact wrap_id (by omega)
      clear c1 hn
      refine wD <| cutG <| Tri.seq <| Tri.block <| Tri.seq ?_
      (refine Tri.cut 1 Tryz.mixed Tryz.T_ok ?_; refine xZ ?_)
      refine wD <| cutG <| Tri.block ?_
      refine Tri.loop (α := KeepsK S h l.length) (fun p => pkS money l ad n p.L S (some (XV.int .i64 h)) (some (XV.int .i64 p.k)) none none) (fun p => l.length - p.k) ⟨0, L, Nat.zero_le _, hk⟩ ?_ ?_
      · unfold pkS pkM
        ((try dsimp only); refine Ent.renC [0, 1, 2, 3, 4, 5, 6] hC ?_ ?_ <;> repeat' (first | exact trivial | exact rfl | exact ⟨_, rfl, rfl, rfl, Nat.le_refl _, fun _ _ => rfl⟩ | exact ⟨_, rfl, rfl, rfl, fun _ _ => rfl⟩ | exact ⟨_, rfl, rfl, rfl⟩ | exact ⟨_, rfl, rfl⟩ | refine ⟨_, rfl, rfl, rfl, by omega, fun k hk => ?_⟩ | refine ⟨?_, ?_⟩ | fail))
      rintro ⟨k, L1, hkl, hk1⟩
      dsimp only
      unfold pkS pkM
      (refine Tri.cut 1 Tryz.mixed Tryz.T_ok ?_; refine xZ ?_)
      refine wC (fun c1 => ?_) (fun c1 => ?_)
      · (refine xG ?_)
        have hkn : k < l.length := Int.ofNat_lt.1 (of_decide_eq_true c1)
        have hwk : IntKind.i64.wrap ((k : Int) + 1) = ((k + 1 : Nat) : Int) := by
          rw [show (k : Int) + 1 = ((k + 1 : Nat) : Int) by omega]; exact wrap_id (by omega)
        have h4k : IntKind.i64.wrap (8 + IntKind.i64.wrap (4 * (k : Int))) = ((8 + 4 * k : Nat) : Int) := by
          rw [show (4 : Int) * (k : Int) = ((4 * k : Nat) : Int) by omega, show IntKind.i64.wrap ((4 * k : Nat) : Int) = ((4 * k : Nat) : Int) from wrap_id (by omega), show (8 : Int) + ((4 * k : Nat) : Int) = ((8 + 4 * k : Nat) : Int) by omega]
          exact wrap_id (by omega)
        obtain ⟨q1, q2⟩ := hq k hkn
        have kfew := few14_can (l.getD k default) q1 q2
        clear c1
        refine wD <| cutG <| Tri.seq <| Tri.block ?_
        (refine Tri.cut 1 Tryz.mixed Tryz.T_ok ?_; refine xZ ?_)
        (repeat (refine wN ?_ ?_; exact xW; refine xG ?_))
        simp only [Nat.zero_add, Int.toNat_natCast]
        (apply wP; exact (call_op rfl (entersB_of Tryz.func30 (by kernel_rfl)) rfl (kfew.at [2] ⟨lend_planE (q := 2) rfl rfl hkn, trivial⟩ trivial)); refine xZ ?_)
        refine wC (fun c2 => ?_) (fun c2 => ?_)
        · (refine xG ?_)
          refine wD ?_
          repeat (first | with_reducible refine blockR ?_ | with_reducible refine cutR ?_ | with_reducible refine loopR ?_)
          exact Ends.plain (.inr rfl) rfl rfl
        have hfw : few14 (l.getD k default) = true := by simpa using c2
        have hf30 : (l.getD k default).am.length ≤ 30 ∧ (l.getD k default).who.length ≤ 7 := by
          rw [few14, Bool.and_eq_true, decide_eq_true_eq, decide_eq_true_eq] at hfw
          exact hfw
        (refine xG ?_)
        refine wD <| cutG <| Tri.of Tryz.mixed Tryz.T_ok ?_
        (refine xB ?_)
        simp only [h4k]
        refine wC (fun c3 => ?_) (fun c3 => ?_)
        · (refine xG ?_)
          (repeat (refine wN ?_ ?_; exact xW; refine xG ?_))
          simp only [Nat.zero_add, Int.toNat_natCast]
          have hmk := make14_can (l.getD k default) (by omega) (by omega)
          change Makes _ _ _ _ _ (.abs (PackP [.vec 59 9 (l.getD k default).am.length (outsF (make14 (l.getD k default)).outs), .vec 192 282 (l.getD k default).who.length (sgdsF (make14 (l.getD k default)).sigs)])) at hmk
          have hol : (l.getD k default).am.length = (make14 (l.getD k default)).outs.length := (outs14_len _ _).symm
          have hsl : (l.getD k default).who.length = (make14 (l.getD k default)).sigs.length := (signL_len _ _ _).symm
          obtain ⟨pa, hpa⟩ : ∃ pa, (l.getD k default).am.length = pa := ⟨_, rfl⟩
          obtain ⟨pw, hpw⟩ : ∃ pw, (l.getD k default).who.length = pw := ⟨_, rfl⟩
          rw [hpa, hpw] at hmk hf30
          rw [hpa] at hol
          rw [hpw] at hsl
          generalize make14 (l.getD k default) = c at hmk hol hsl
          have hkt := keep_take hk1 c
          have ktake := ctake_can L1 c (h : Int) finH (fun i hi => (hk1.all i hi).sized) (by have := hk1.len; omega) (by omega) (by omega)
          obtain ⟨⟨L', f⟩, htk⟩ : ∃ q, takeC L1 c (h : Int) finH = q := ⟨_, rfl⟩
          rw [htk] at hkt ktake
          dsimp only at hkt ktake
          (apply wP; exact (call_op rfl (entersB_of Tryz.func32 (by kernel_rfl)) rfl (hmk.at [2] ⟨lend_planE (q := 2) rfl rfl hkn, trivial⟩ trivial)); refine xZ ?_)
          (apply wP; exact (call_op rfl (entersB_of Tryz.func33 (by kernel_rfl)) rfl (end14_can.at [] trivial trivial)); refine xZ ?_)
          (apply wP; exact (call_op rfl (entersB_of Tryz.func31 (by kernel_rfl)) rfl (ktake.at [27, 4] rfl rfl rfl ⟨lend_cert (c := c) (lend_insN (j := 0) hol rfl rfl rfl rfl (by omega) (fun _ _ => rfl)) (lend_insN (j := 1) hsl rfl rfl rfl rfl (by omega) (fun _ _ => rfl)), lend_plain rfl, lend_plain rfl, trivial⟩ ⟨lend_ext (c := 4) rfl rfl, trivial⟩)); refine xZ ?_)
          refine wD <| blockN <| cutG <| Tri.of Tryz.mixed Tryz.T_ok ?_
          (refine xB ?_)
          refine wD <| loopN ⟨⟨k + 1, L', hkn, hkt.1⟩, by dsimp only; omega, ?_⟩
          rw [hwk]
          ((try dsimp only); refine Ent.renC [0, 1, 2, 3, 4, 5, 6] hC ?_ ?_ <;> repeat' (first | exact trivial | exact rfl | exact ⟨_, rfl, rfl, rfl, Nat.le_refl _, fun _ _ => rfl⟩ | exact ⟨_, rfl, rfl, rfl, fun _ _ => rfl⟩ | exact ⟨_, rfl, rfl, rfl⟩ | exact ⟨_, rfl, rfl⟩ | refine ⟨_, rfl, rfl, rfl, by omega, fun k hk => ?_⟩ | refine ⟨?_, ?_⟩ | fail))
        · (refine xG ?_)
          refine wD <| blockN <| cutG <| Tri.of Tryz.mixed Tryz.T_ok ?_
          (refine xB ?_)
          refine wD <| loopN ⟨⟨k + 1, L1, hkn, hk1⟩, by dsimp only; omega, ?_⟩
          rw [hwk]
          ((try dsimp only); refine Ent.renC [0, 1, 2, 3, 4, 5, 6] hC ?_ ?_ <;> repeat' (first | exact trivial | exact rfl | exact ⟨_, rfl, rfl, rfl, Nat.le_refl _, fun _ _ => rfl⟩ | exact ⟨_, rfl, rfl, rfl, fun _ _ => rfl⟩ | exact ⟨_, rfl, rfl, rfl⟩ | exact ⟨_, rfl, rfl⟩ | refine ⟨_, rfl, rfl, rfl, by omega, fun k hk => ?_⟩ | refine ⟨?_, ?_⟩ | fail))
      · (refine xG ?_)
        obtain ⟨L2, S2, e1, e2, hk2⟩ := keep_end h4 (by omega) hk1
        have hhi : (Int64.ofNat h).toInt = (h : Int) := toInt_ofNat (by omega)
        have kend := end_can L1 S (Int64.ofNat h) (fun i hi => (hk1.all i hi).sized) (fun i hi => by have := (hk1.all i hi).outs; omega) (by have := hk1.len; omega) (by have := hk1.steps; rw [overN] at this; omega)
        rw [e1, hhi] at kend
        dsimp only at kend
        have hl8 := hk2.len
        clear c1 e1
        refine wD <| cutE <| loopX <| blockX <| cutG ?_
        (refine Tri.cut 2 Tryz.mixed Tryz.T_ok ?_; refine xZ ?_)
        (apply wP; exact (call_op rfl (entersB_of Tryz.func34 (by kernel_rfl)) rfl (kend.at2 [4] rfl rfl rfl rfl ⟨lend_plain rfl, trivial⟩ ⟨lend_ext (c := 4) rfl rfl, trivial⟩)); refine xZ ?_)
        refine wD <| cutG <| Tri.seq ?_
        (refine Tri.cut 1 Tryz.mixed Tryz.T_ok ?_; refine xZ ?_)
        refine wD <| cutG <| Tri.block ?_
        refine Tri.loop (α := { i : Nat // i ≤ L2.length }) (fun i => pkS money l ad n L2 S2 (some (XV.int .i64 h)) none (some (XV.int .i64 (matS (L2.take i.1)))) (some (XV.int .i64 i.1))) (fun i => L2.length - i.1) ⟨0, Nat.zero_le _⟩ ?_ ?_
        · unfold pkS pkM
          ((try dsimp only); refine Ent.renC [0, 1, 2, 3, 4, 5, 6] hC ?_ ?_ <;> repeat' (first | exact trivial | exact rfl | exact ⟨_, rfl, rfl, rfl, Nat.le_refl _, fun _ _ => rfl⟩ | exact ⟨_, rfl, rfl, rfl, fun _ _ => rfl⟩ | exact ⟨_, rfl, rfl, rfl⟩ | exact ⟨_, rfl, rfl⟩ | refine ⟨_, rfl, rfl, rfl, by omega, fun k hk => ?_⟩ | refine ⟨?_, ?_⟩ | fail))
        rintro ⟨j, hj⟩
        dsimp only
        unfold pkS pkM
        (refine Tri.cut 1 Tryz.mixed Tryz.T_ok ?_; refine xZ ?_)
        (apply wP; exact (call_op rfl (entersB_of Tryz.func35 (by kernel_rfl)) rfl ((regLen_can L2).at [] rfl rfl rfl trivial trivial)); refine xZ ?_)
        refine wC (fun c1 => ?_) (fun c1 => ?_)
        · (refine xG ?_)
          have hjn : j < L2.length := Int.ofNat_lt.1 (of_decide_eq_true c1)
          have hwj : IntKind.i64.wrap ((j : Int) + 1) = ((j + 1 : Nat) : Int) := by
            rw [show (j : Int) + 1 = ((j + 1 : Nat) : Int) by omega]; exact wrap_id (by omega)
          have kx := hk2.all j hjn
          have kin := side_in L2 j hjn kx.sized
          have hpt := matS_part hk2.all hl8 j
          have hps := matS_take hjn
          obtain ⟨x, hx⟩ : ∃ x, L2.getD j default = x := ⟨_, rfl⟩
          rw [hx] at kx kin hps
          have f1 := kx.fwd
          have f2 := kx.bal0
          have f3 := kx.mat0
          have f4 := kx.cap
          have hfb : IntKind.i64.wrap (x.bal + x.mat) = x.fwd := by rw [f1]; exact wrap_id (by omega)
          have hsm : IntKind.i64.wrap (matS (L2.take j) + x.mat) = matS (L2.take (j + 1)) := by rw [hps]; exact wrap_id (by omega)
          clear c1 kx
          refine wD <| cutG <| Tri.seq <| Tri.block <| Tri.of Tryz.mixed Tryz.T_ok ?_
          (refine xB ?_)
          (apply wP; exact (call_op rfl (entersB_of Tryz.func22 (by kernel_rfl)) rfl (kin.at1 [] rfl rfl rfl ⟨lend_plain rfl, trivial⟩ trivial)); refine xZ ?_)
          simp only [hfb]
          refine wFd (by simp) ?_
          (refine xG ?_)
          refine wFd (decide_eq_false (by omega)) ?_
          (refine xG ?_)
          simp only [hsm]
          refine wD <| blockN <| cutG <| Tri.of Tryz.mixed Tryz.T_ok ?_
          (refine xB ?_)
          refine wD <| loopN ⟨⟨j + 1, hjn⟩, by dsimp only; omega, ?_⟩
          rw [hwj]
          ((try dsimp only); refine Ent.renC [0, 1, 2, 3, 4, 5, 6] hC ?_ ?_ <;> repeat' (first | exact trivial | exact rfl | exact ⟨_, rfl, rfl, rfl, Nat.le_refl _, fun _ _ => rfl⟩ | exact ⟨_, rfl, rfl, rfl, fun _ _ => rfl⟩ | exact ⟨_, rfl, rfl, rfl⟩ | exact ⟨_, rfl, rfl⟩ | refine ⟨_, rfl, rfl, rfl, by omega, fun k hk => ?_⟩ | refine ⟨?_, ?_⟩ | fail))
        · (refine xG ?_)
          have hjn : j = L2.length := by have := of_decide_eq_false c1; omega
          subst hjn
          rw [List.take_length, ← hk2.tot]
          refine wD <| cutE <| loopX <| blockX <| cutG <| Tri.of Tryz.mixed Tryz.T_ok ?_
          (refine xB ?_)
          (apply wP; exact (call_op rfl (entersB_of Tryz.func23 (by kernel_rfl)) rfl (total_spec S2 (c0 := 6) rfl rfl)); refine xZ ?_)
          refine wFd (by simp) ?_
          (refine xG ?_)
          refine wD <| blockN <| cutG <| Tri.of Tryz.mixed Tryz.T_ok ?_
          (refine xB ?_)
          refine wD <| loopN ⟨⟨h + 1, L2, S2, by omega, by omega, hk2⟩, by dsimp only; omega, ?_⟩
          rw [hw]
          ((try dsimp only); refine Ent.renC [0, 1, 2, 3, 4, 5, 6] hC ?_ ?_ <;> repeat' (first | exact trivial | exact rfl | exact ⟨_, rfl, rfl, rfl, Nat.le_refl _, fun _ _ => rfl⟩ | exact ⟨_, rfl, rfl, rfl, fun _ _ => rfl⟩ | exact ⟨_, rfl, rfl, rfl⟩ | exact ⟨_, rfl, rfl⟩ | refine ⟨_, rfl, rfl, rfl, by omega, fun k hk => ?_⟩ | refine ⟨?_, ?_⟩ | fail))
    · (refine xG ?_)
      refine wD <| cutE <| loopX <| blockX <| cutG <| Tri.of Tryz.mixed Tryz.T_ok ?_
      (refine xB ?_)
      exact wD (Ends.plain (.inr rfl) rfl rfl)
end Go.Proofs.YtnpkdoggfnlapaaGreatDoor
