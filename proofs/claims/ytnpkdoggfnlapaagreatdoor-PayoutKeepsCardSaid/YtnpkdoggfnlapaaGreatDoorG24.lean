/- Parts Bl Bp Bq Br Bs Bt. -/
import Derived.Test.YtnpkdoggfnlapaaGreatDoorG23
import Derived.Test.YtnpkdoggfnlapaaGreatDoorG21
set_option linter.unusedSimpArgs false
set_option linter.unusedVariables false
namespace Go.Proofs.YtnpkdoggfnlapaaGreatDoor
set_option maxRecDepth 100000
open Go.Sx
theorem outsOK_len {l : List OutM} (h : outsOK l = true) : l.length ≤ 16 := by
  rw [outsOK, Bool.and_eq_true, decide_eq_true_eq] at h
  exact h.2
set_option maxHeartbeats 4000000 in
theorem rmay4_can (c : CertM) (h1 : c.outs.length ≤ 1000000000) (h2 : c.sigs.length ≤ 1000000000) : Reads Tryz.prog 57 [.box (certTx c).ac] [] (XV.bool (certOK c)) := by
  have hm := rmayCert_can c h1 h2
  obtain ⟨ob, hob⟩ : ∃ ob, certOK c = ob := ⟨_, rfl⟩
  rw [hob] at hm ⊢
  refine Reads.of Tryz.T_ok Tryz.func57 rfl _ _ _ rfl rfl (fun C hC => ?_)
  (replace hC : C.n0 = 6 := hC; change Tri _ _ _ ⟨_, _, 6⟩ _)
  refine Tri.of Tryz.mixed Tryz.T_ok ?_
  (refine xB ?_)
  repeat (first | (refine wFd rfl ?_; refine xG ?_) | (refine wTd rfl ?_; refine xG ?_))
  (apply wP; exact (call_op rfl (entersB_of Tryz.func108 (by kernel_rfl)) rfl (noPar0.at [3] ⟨lend_par (p := par0) (lend_ro0 rfl rfl), trivial⟩ trivial)); refine xZ ?_)
  repeat (first | (refine wFd rfl ?_; refine xG ?_) | (refine wTd rfl ?_; refine xG ?_))
  (refine wP _ _ (neq_op claimE rfl (claim0.cv claim0_wf) (claim0.cv claim0_wf) rfl rfl) ?_; refine xZ ?_)
  refine wFd (by simp) ?_
  (refine xG ?_)
  repeat (first | (refine wFd rfl ?_; refine xG ?_) | (refine wTd rfl ?_; refine xG ?_))
  (apply wP; exact (call_op rfl (entersB_of Tryz.func113 (by kernel_rfl)) rfl (hm.at [4, 5] ⟨lend_cert (c := c) (lend_ro0 rfl rfl) (lend_ro0 rfl rfl), trivial⟩ trivial)); refine xZ ?_)
  exact wD (Ends.plain (.inr rfl) rfl rfl)
theorem certEnc_eq (c : CertM) : certEnc (certTx c) = numL 4 1 ++ (certP c).flatten := by
  show ((numL 4 1) :: certP c).flatten = _
  rfl
theorem certP_len {c : CertM} (h : certOK c = true) : (certP c).flatten.length ≤ 3000 := by
  have h1 := certEnc_len (t := certTx c) h
  rw [certEnc_eq, List.length_append] at h1
  omega
set_option maxHeartbeats 4000000 in
theorem rencode4_can (c : CertM) (hc : certOK c = true) : Makes Tryz.prog 44 [.box (certTx c).ac] [] (.tup [.one (.slc 0 1 0 (certEnc (certTx c)).length), .one (.raw (.int .i64 0))]) (.vec 5 1 (certEnc (certTx c)).length (rowB (certEnc (certTx c)))) := by
  obtain ⟨-, -, h3, -, h5⟩ := certOK_parts hc
  have ho := outsOK_len h3
  have hmay := rmay4_can c (by omega) (by omega)
  have hcb := rcertB_can c (by omega) (by omega)
  rw [hc] at hmay
  have hle : (certEnc (certTx c)).length = 1 + (certP c).flatten.length := by rw [certEnc_eq, List.length_append, numL_length]
  have hpl := certP_len hc
  rw [hle]
  refine Makes.of Tryz.T_ok Tryz.func44 rfl _ _ _ _ rfl rfl rfl rfl 30 (fun C hC => ?_)
  (replace hC : C.n0 = 6 := hC; change Tri _ _ _ ⟨_, _, 6⟩ _)
  refine Tri.of Tryz.mixed Tryz.T_ok ?_
  (refine xB ?_)
  (apply wP; exact (call_op rfl (entersB_of Tryz.func57 (by kernel_rfl)) rfl (hmay.at [0, 1, 2, 3, 4, 5] ⟨lend_tx (t := certTx c) (lend_ro0 rfl rfl) (lend_ro0 rfl rfl) (lend_ro0 rfl rfl) (lend_ro0 rfl rfl) (lend_ro0 rfl rfl) (lend_ro0 rfl rfl), trivial⟩ trivial)); refine xZ ?_)
  (apply wP; exact (call_op rfl (entersB_of Tryz.func72 (by kernel_rfl)) rfl ((num_can 4 1 (by decide)).at [] ⟨lend_plain rfl, lend_plain rfl, trivial⟩ trivial)); refine xZ ?_)
  repeat (first | (refine wFd rfl ?_; refine xG ?_) | (refine wTd rfl ?_; refine xG ?_))
  (apply wP; exact (call_op rfl (entersB_of Tryz.func93 (by kernel_rfl)) rfl (hcb.at [4, 5] ⟨lend_cert (c := c) (lend_ro0 rfl rfl) (lend_ro0 rfl rfl), trivial⟩ trivial)); refine xZ ?_)
  (refine wP _ _ (append_op Tryz.T_ok rfl rfl rfl rfl rfl [14, 29] (old_vec rfl rfl (Nat.le_refl _) rfl) (new_vec (lo := 0) rfl rfl (Nat.le_of_eq (Nat.zero_add _)) rfl) rfl (fun _ _ => rfl) (by simp only [maxLen]; omega) (by dsimp only; omega)) ?_; refine xZ ?_)
  refine wD (Ends.made (.inr rfl) (Ent.chg0 (c := 30) (g := rowB (certEnc (certTx c))) rfl ?_) rfl (Nat.le_of_ble_eq_true rfl) rfl)
  rw [certEnc_eq]
  simp only [Nat.zero_add]
  intro k hk
  refine rowB_joinL (numL_length _ _).symm (fun _ _ => rfl) (fun _ _ => rfl) k ?_
  rw [List.length_append, numL_length]
  exact hk
set_option maxHeartbeats 4000000 in
theorem rencode4_bad (c : CertM) (h1 : c.outs.length ≤ 1000000000) (h2 : c.sigs.length ≤ 1000000000) (hc : certOK c = false) : Reads Tryz.prog 44 [.box (certTx c).ac] [] (.tup [.one (.raw (.slice none 0 0)), .one (.raw (.int .i64 1))]) := by
  have hmay := rmay4_can c h1 h2
  rw [hc] at hmay
  refine Reads.of Tryz.T_ok Tryz.func44 rfl _ _ _ rfl rfl (fun C hC => ?_)
  (replace hC : C.n0 = 6 := hC; change Tri _ _ _ ⟨_, _, 6⟩ _)
  refine Tri.of Tryz.mixed Tryz.T_ok ?_
  (refine xB ?_)
  (apply wP; exact (call_op rfl (entersB_of Tryz.func57 (by kernel_rfl)) rfl (hmay.at [0, 1, 2, 3, 4, 5] ⟨lend_tx (t := certTx c) (lend_ro0 rfl rfl) (lend_ro0 rfl rfl) (lend_ro0 rfl rfl) (lend_ro0 rfl rfl) (lend_ro0 rfl rfl) (lend_ro0 rfl rfl), trivial⟩ trivial)); refine xZ ?_)
  exact wD (Ends.plain (.inr rfl) rfl rfl)
set_option maxHeartbeats 4000000 in
theorem rcertMsg_can (c : CertM) (h1 : c.outs.length ≤ 1000000) : Reads Tryz.prog 69 [.box c.ac] [] (.tup [(certMsg c).x, .one (.raw (.bool (certOK (bareCert c))))]) := by
  refine Reads.of Tryz.T_ok Tryz.func69 rfl _ _ _ rfl rfl (fun C hC => ?_)
  (replace hC : C.n0 = 2 := hC; change Tri _ _ _ ⟨_, _, 2⟩ _)
  cases hb : certOK (bareCert c) with
  | false =>
    have hen := rencode4_bad (bareCert c) (by show c.outs.length ≤ _; omega) (by show 1 ≤ 1000000000; decide) hb
    have hc : certMsg c = zeroH := by rw [certMsg, if_neg (by rw [hb]; simp)]
    rw [hc]
    refine Tri.of Tryz.mixed Tryz.T_ok ?_
    (refine xB ?_)
    (apply wP; exact (call_op rfl (entersB_of Tryz.func44 (by kernel_rfl)) rfl (hen.at [0, 6] ⟨lend_tx (t := certTx (bareCert c)) (lend_nil _ _) (lend_nil _ _) (lend_nil _ _) (lend_nil _ _) (lend_ro0 rfl rfl) (lend_vecN (lo := 0) rfl rfl rfl (Nat.le_refl _) (fun i hi => by obtain rfl := Nat.lt_one_iff.1 hi; rfl)), trivial⟩ trivial)); refine xZ ?_)
    exact wD (Ends.plain (.inr rfl) rfl rfl)
  | true =>
    have hen := rencode4_can (bareCert c) hb
    have hlen := certEnc_len (t := certTx (bareCert c)) hb
    have hc : certMsg c = dig 99 [certEnc (certTx (bareCert c))] := by rw [certMsg, if_pos hb]
    rw [hc]
    refine Tri.of Tryz.mixed Tryz.T_ok ?_
    (refine xB ?_)
    (apply wP; exact (call_op rfl (entersB_of Tryz.func44 (by kernel_rfl)) rfl (hen.at [0, 6] ⟨lend_tx (t := certTx (bareCert c)) (lend_nil _ _) (lend_nil _ _) (lend_nil _ _) (lend_nil _ _) (lend_ro0 rfl rfl) (lend_vecN (lo := 0) rfl rfl rfl (Nat.le_refl _) (fun i hi => by obtain rfl := Nat.lt_one_iff.1 hi; rfl)), trivial⟩ trivial)); refine xZ ?_)
    (refine wP _ _ (cellsNew_op Tryz.T_ok rfl rfl rfl) ?_; refine xZ ?_)
    (apply wP; exact (call_op rfl (entersB_of Tryz.func45 (by kernel_rfl)) rfl ((digest_can 99 [certEnc (certTx (bareCert c))] (short1 _ _ (by omega))).at [11, 20] ⟨lend_plain rfl, lend_parts [certEnc (certTx (bareCert c))] rfl rfl rfl ⟨lend_vec0 rfl rfl, trivial⟩, trivial⟩ trivial)); refine xZ ?_)
    exact wD (Ends.plain (.inr rfl) rfl rfl)
end Go.Proofs.YtnpkdoggfnlapaaGreatDoor
namespace Go.Proofs.YtnpkdoggfnlapaaGreatDoor
set_option maxRecDepth 100000
open Go.Sx
def sgn9 (m : H8) (who : List Int) (i : Nat) : SgdM := ⟨who.getD i 0, signM (qseed (who.getD i 0)) (i % 8) m⟩
def signL (m : H8) (who : List Int) (i : Nat) : List SgdM := (List.range i).map (sgn9 m who)
theorem signL_len (m : H8) (who : List Int) (i : Nat) : (signL m who i).length = i := by simp [signL]
theorem signL_succ (m : H8) (who : List Int) (i : Nat) : signL m who (i + 1) = signL m who i ++ [sgn9 m who i] := by simp [signL, List.range_succ]
theorem rowOf_join {E : Type} [Inhabited E] {c : E → List Value} {l : List E} {x : E} {f : Nat → List Value} {m k : Nat} (hm : m = l.length) (hf : f 0 = c x) (hk : k < m + 1) : joinF (rowOf c l) m f k = rowOf c (l ++ [x]) k := by
  subst hm
  simp only [joinF, nblt]
  by_cases h : k < l.length
  · rw [decide_eq_true h, cond_true, rowOf, rowOf, List.getD_eq_getElem?_getD, List.getD_eq_getElem?_getD, List.getElem?_append_left h]
  · obtain rfl : k = l.length := by omega
    rw [decide_eq_false h, cond_false, Nat.sub_self, hf, rowOf]; simp
def sgSt (m : H8) (who : List Int) (i : Nat) : St :=
  ⟨[none, some (XV.sv (.slc 1 1 0 who.length)), some (XV.sv (.slc 2 1 0 0)), some (XV.sv (.ptr 3 0 0 0)), none, none, none, some (XV.sv (.slc 4 282 0 i)), some (XV.int .i64 i)] ++ List.replicate 46 none,
   [(1, .ro 1 who.length (intsF who)), (2, .ro 1 0 fun _ => []), (3, .cells 29 (m.cells.map .raw)), (4, .vec 192 282 i (sgdsF (signL m who i)))], 5⟩
set_option maxHeartbeats 8000000 in
theorem signed_can (m : H8) (who : List Int) (hl : who.length ≤ 100) : Makes Tryz.prog 70 [.plain m.x, .row 1 who.length (intsF who), .row 1 0 fun _ => []] [] (XV.sv (.slc 0 282 0 who.length)) (.vec 192 282 who.length (sgdsF (signL m who who.length))) := by
  refine Makes.of Tryz.T_ok Tryz.func70 rfl _ _ _ _ rfl rfl rfl rfl 4 (fun C hC => ?_)
  (replace hC : C.n0 = 3 := hC; change Tri _ _ _ ⟨_, _, 3⟩ _)
  (refine Tri.cut 2 Tryz.mixed Tryz.T_ok ?_; refine xZ ?_)
  refine wD <| cutG <| Tri.ent (Ent.nils (t := 7) rfl 192 282) <| Tri.seq ?_
  (refine Tri.cut 1 Tryz.mixed Tryz.T_ok ?_; refine xZ ?_)
  refine wD <| cutG <| Tri.block ?_
  refine Tri.loop (α := { i : Nat // i ≤ who.length }) (fun i => sgSt m who i.1) (fun i => who.length - i.1) ⟨0, Nat.zero_le _⟩ ?_ ?_
  · unfold sgSt
    ((try dsimp only); refine Ent.renC [0, 1, 2, 3, 6] hC ?_ ?_ <;> repeat' (first | exact trivial | exact rfl | exact ⟨_, rfl, rfl, rfl, Nat.le_refl _, fun _ _ => rfl⟩ | exact ⟨_, rfl, rfl, rfl, fun _ _ => rfl⟩ | exact ⟨_, rfl, rfl, rfl⟩ | exact ⟨_, rfl, rfl⟩ | refine ⟨_, rfl, rfl, rfl, by omega, fun k hk => ?_⟩ | refine ⟨?_, ?_⟩ | fail))
    all_goals exact absurd ‹_ < 0› (Nat.not_lt_zero _)
  rintro ⟨i, hi⟩
  dsimp only
  unfold sgSt
  (refine Tri.cut 1 Tryz.mixed Tryz.T_ok ?_; refine xZ ?_)
  refine wC (fun h1 => ?_) (fun h1 => ?_)
  · (refine xG ?_)
    have h1' : i < who.length := xW
    have hw : IntKind.i64.wrap ((i : Int) + 1) = ((i + 1 : Nat) : Int) := xW
    have e8 : Int.tmod ((i : Nat) : Int) 8 = ((i % 8 : Nat) : Int) := rfl
    have hst := signTree_can (qseed (who.getD i 0)) (i % 8) m (Nat.mod_lt _ (by decide))
    refine wD <| cutG <| Tri.seq <| Tri.block <| Tri.of Tryz.mixed Tryz.T_ok ?_
    (refine xB ?_)
    (refine wFd ?_ ?_; (first | refine decide_eq_false ?_ | rw [beq_eq_false_iff_ne] | rw [bne_eq_false_iff_eq]); exact xW; refine xG ?_)
    (repeat (refine wN ?_ ?_; exact xW; refine xG ?_))
    simp only [Nat.zero_add, Int.toNat_natCast, e8]
    (apply wP; exact (call_op rfl (entersB_of Tryz.func118 (by kernel_rfl)) rfl ((seed_can (who.getD i 0)).at [] ⟨lend_plain rfl, trivial⟩ trivial)); refine xZ ?_)
    (apply wP; exact (call_op rfl (entersB_of Tryz.func123 (by kernel_rfl)) rfl (hst.at [] ⟨lend_plain rfl, lend_plain rfl, lend_plain rfl, trivial⟩ trivial)); refine xZ ?_)
    (repeat (refine wN ?_ ?_; exact xW; refine xG ?_))
    simp only [Nat.zero_add, Int.toNat_natCast]
    (refine wP _ _ (append_op Tryz.T_ok rfl rfl rfl rfl rfl [4, 44] (old_vec rfl rfl (Nat.le_refl _) rfl) (new_vec (lo := 0) rfl rfl (Nat.le_refl _) rfl) rfl (lt1 rfl) (by simp only [maxLen]; omega) (by dsimp only; omega)) ?_; refine xZ ?_)
    refine wD <| blockN <| cutG <| Tri.of Tryz.mixed Tryz.T_ok ?_
    (refine xB ?_)
    refine wD <| loopN ⟨⟨i + 1, h1'⟩, by dsimp only; omega, ?_⟩
    rw [hw]
    ((try dsimp only); refine Ent.renC [0, 1, 2, 3, 45] hC ?_ ?_ <;> repeat' (first | exact trivial | exact rfl | exact ⟨_, rfl, rfl, rfl, Nat.le_refl _, fun _ _ => rfl⟩ | exact ⟨_, rfl, rfl, rfl, fun _ _ => rfl⟩ | exact ⟨_, rfl, rfl, rfl⟩ | exact ⟨_, rfl, rfl⟩ | refine ⟨_, rfl, rfl, rfl, by omega, fun k hk => ?_⟩ | refine ⟨?_, ?_⟩ | fail))
    rw [signL_succ]
    exact rowOf_join (signL_len _ _ _).symm rfl hk
  · (refine xG ?_)
    have h1' : i = who.length := xW
    subst h1'
    refine wD <| cutE <| loopX <| blockX <| cutG <| Tri.of Tryz.mixed Tryz.T_ok ?_
    (refine xB ?_)
    exact wD (Ends.made (.inr rfl) (Ent.refl _) rfl (Nat.le_of_ble_eq_true rfl) rfl)
end Go.Proofs.YtnpkdoggfnlapaaGreatDoor
namespace Go.Proofs.YtnpkdoggfnlapaaGreatDoor
set_option maxRecDepth 100000
open Go.Sx
structure Plan14 where
  side : Int
  ep : Int
  qual : Int
  am : List Int64
  who : List UInt8
  bend : UInt8
def Plan14.ams (p : Plan14) : List Int := p.am.map Int64.toInt
def Plan14.ac (p : Plan14) : List AC := [iC p.side, iC p.ep, iC p.qual, .row 1 p.am.length (intsF p.ams), .row 1 p.who.length (rowB p.who), .raw (u8 p.bend)]
def few14 (p : Plan14) : Bool := decide (p.am.length ≤ 30) && decide (p.who.length ≤ 7)
def finH : H8 := ⟨101, 1, 0, 0, 0, 0, 0, 0⟩
def rootQ (q : Int) : H8 := ⟨114, byteI (IntKind.u8.wrap q), 0, 0, 0, 0, 0, 0⟩
def out14 (p : Plan14) (i : Nat) : OutM := ⟨⟨1, byteI (IntKind.u8.wrap (i : Int)), 0, 0, 0, 0, 0, 0⟩, p.am.getD i 0⟩
def outs14 (p : Plan14) (i : Nat) : List OutM := (List.range i).map (out14 p)
theorem outs14_len (p : Plan14) (i : Nat) : (outs14 p i).length = i := by simp [outs14]
theorem outs14_succ (p : Plan14) (i : Nat) : outs14 p (i + 1) = outs14 p i ++ [out14 p i] := by simp [outs14, List.range_succ]
def fin14 (p : Plan14) : H8 := if p.bend = 1 then { finH with b7 := 1 } else finH
def cert14 (p : Plan14) : CertM := ⟨p.side, p.ep, p.qual, fin14 p, rootQ p.qual, outs14 p p.am.length, []⟩
def flipH (m : H8) : H8 := { m with b0 := byteI (bitI .xor .u8 (m.b0.toNat : Int) 1) }
theorem flip_cells (m : H8) : (flipH m).cells = [.int .u8 (bitI .xor .u8 (m.b0.toNat : Int) 1), u8 m.b1, u8 m.b2, u8 m.b3, u8 m.b4, u8 m.b5, u8 m.b6, u8 m.b7] := by
  show [u8 (byteI (bitI .xor .u8 (m.b0.toNat : Int) 1)), u8 m.b1, u8 m.b2, u8 m.b3, u8 m.b4, u8 m.b5, u8 m.b6, u8 m.b7] = _
  rw [show u8 (byteI (bitI .xor .u8 (m.b0.toNat : Int) 1)) = .int .u8 (bitI .xor .u8 (m.b0.toNat : Int) 1) from u8_byteI _]
def bend14 (b : UInt8) (m : H8) : H8 := if b = 2 then flipH m else m
def msg14 (p : Plan14) : H8 := bend14 p.bend (certMsg (cert14 p))
def who14 (p : Plan14) (i : Nat) : Int := ((p.who.getD (if p.bend = 3 then p.who.length - 1 - i else i) 0).toNat : Int)
def whos (p : Plan14) (i : Nat) : List Int := (List.range i).map (who14 p)
theorem ams_get (p : Plan14) (i : Nat) : p.ams.getD i 0 = (p.am.getD i 0).toInt := by
  rw [Plan14.ams, List.getD_eq_getElem?_getD, List.getElem?_map, List.getD_eq_getElem?_getD]
  cases p.am[i]? <;> rfl
theorem out14_cells (p : Plan14) (i : Nat) : (out14 p i).cells = [.int .u8 1, .int .u8 (IntKind.u8.wrap (i : Int)), .int .u8 0, .int .u8 0, .int .u8 0, .int .u8 0, .int .u8 0, .int .u8 0, .int .i64 (p.ams.getD i 0)] := by
  rw [ams_get]
  show [u8 1, u8 (byteI (IntKind.u8.wrap (i : Int))), u8 0, u8 0, u8 0, u8 0, u8 0, u8 0, i64 (p.am.getD i 0)] = _
  rw [u8_byteI]; rfl
theorem whos_len (p : Plan14) (i : Nat) : (whos p i).length = i := by simp [whos]
theorem whos_succ (p : Plan14) (i : Nat) : whos p (i + 1) = whos p i ++ [who14 p i] := by simp [whos, List.range_succ]
def make14 (p : Plan14) : CertM := { cert14 p with sigs := signL (msg14 p) (whos p p.who.length) p.who.length }
set_option maxHeartbeats 4000000 in
theorem few14_can (p : Plan14) (h1 : p.am.length ≤ maxLen) (h2 : p.who.length ≤ maxLen) : Reads Tryz.prog 30 [.box p.ac] [] (XV.bool (few14 p)) := by
  refine Reads.of Tryz.T_ok Tryz.func30 rfl _ _ _ rfl rfl (fun C hC => ?_)
  (replace hC : C.n0 = 2 := hC; change Tri _ _ _ ⟨_, _, 2⟩ _)
  refine Tri.of Tryz.mixed Tryz.T_ok ?_
  (refine xB ?_)
  refine wC (fun h3 => ?_) (fun h3 => ?_)
  · (refine xG ?_)
    exact wD (Ends.plain (.inr rfl) rfl (congrArg (fun b : Bool => XV.bool b) (by have h4 : p.am.length ≤ 30 := xW; rw [few14, decide_eq_true h4, Bool.true_and]; rw [Bool.eq_iff_iff, decide_eq_true_eq, decide_eq_true_eq]; omega)))
  · (refine xG ?_)
    exact wD (Ends.plain (.inr rfl) rfl (congrArg (fun b : Bool => XV.bool b) (by have h4 : ¬ p.am.length ≤ 30 := xW; rw [few14, decide_eq_false h4, Bool.false_and])))
theorem end14_can : Reads Tryz.prog 33 [] [] (.cv finH.x) := by
  refine Reads.of Tryz.T_ok Tryz.func33 rfl _ _ _ rfl rfl (fun C hC => ?_)
  (replace hC : C.n0 = 0 := hC; change Tri _ _ _ ⟨_, _, 0⟩ _)
  refine Tri.of Tryz.mixed Tryz.T_ok ?_
  (refine xB ?_)
  exact wD (Ends.plain (.inr rfl) rfl rfl)
theorem u8_lit {b c : UInt8} {n : Int} (h : n = (c.toNat : Int)) : (((b.toNat : Nat) : Int) == n) = decide (b = c) := by
  rw [Bool.eq_iff_iff, beq_iff_eq, decide_eq_true_eq, h, ← UInt8.toNat_inj]
  omega
def mkMem (p : Plan14) (c : CertM) (n : Nat) : Mem :=
  [(0, .ro 1 p.am.length (intsF p.ams)), (1, .ro 1 p.who.length (rowB p.who)), (2, .cells 95 (boxC 0 p.ac)), (3, .cells 43 (certCells cert0 (.raw (.slice none 0 0)) (.raw (.slice none 0 0)))), (4, .cells 43 (certCells c (.slc 5 9 0 n) (.raw (.slice none 0 0)))), (5, .vec 59 9 n (outsF (outs14 p n)))]
def base14 (p : Plan14) (i : Nat) : CertM := ⟨p.side, p.ep, p.qual, finH, rootQ p.qual, outs14 p i, []⟩
def cz14 (p : Plan14) (o s : SV) : List SV := [.raw (.int .i64 p.side), .raw (.int .i64 p.ep), .raw (.int .i64 p.qual)] ++ (finH.cells.map .raw ++ ([.raw (.int .u8 114), .raw (.int .u8 (IntKind.u8.wrap p.qual)), .raw (.int .u8 0), .raw (.int .u8 0), .raw (.int .u8 0), .raw (.int .u8 0), .raw (.int .u8 0), .raw (.int .u8 0)] ++ [o, s]))
theorem cz14_eq (p : Plan14) (i : Nat) (o s : SV) : certCells (base14 p i) o s = cz14 p o s := by
  show [.raw (.int .i64 p.side), .raw (.int .i64 p.ep), .raw (.int .i64 p.qual)] ++ (finH.cells.map .raw ++ ([.raw (u8 114), .raw (u8 (byteI (IntKind.u8.wrap p.qual))), .raw (u8 0), .raw (u8 0), .raw (u8 0), .raw (u8 0), .raw (u8 0), .raw (u8 0)] ++ [o, s])) = _
  rw [u8_byteI]; rfl
theorem cert14_bent {p : Plan14} (h : p.bend = 1) (o s : SV) : certCells (cert14 p) o s = (certCells (base14 p p.am.length) o s).set 10 (.raw (.int .u8 1)) := by
  rw [cert14, fin14, if_pos h]; rfl
theorem cert14_plain {p : Plan14} (h : p.bend ≠ 1) : cert14 p = base14 p p.am.length := by
  rw [cert14, fin14, if_neg h]; rfl
def mkA (p : Plan14) (i : Nat) : St := ⟨[none, some (XV.sv (.ptr 2 0 0 0)), some (XV.sv (.ptr 3 0 0 0)), some (XV.sv (.ptr 4 0 0 0)), some (XV.int .i64 i)] ++ List.replicate 86 none, mkMem p (base14 p i) i, 6⟩
def mkB (p : Plan14) : St := ⟨[none, some (XV.sv (.ptr 2 0 0 0)), some (XV.sv (.ptr 3 0 0 0)), some (XV.sv (.ptr 4 0 0 0))] ++ List.replicate 87 none, mkMem p (cert14 p) p.am.length, 6⟩
def mkC (p : Plan14) (m : H8) : St := ⟨[none, some (XV.sv (.ptr 2 0 0 0)), some (XV.sv (.ptr 3 0 0 0)), some (XV.sv (.ptr 4 0 0 0)), none, some (XV.sv (.ptr 6 0 0 0))] ++ List.replicate 85 none, mkMem p (cert14 p) p.am.length ++ [(6, .cells 29 (m.cells.map .raw))], 7⟩
def mkD (p : Plan14) (i : Nat) : St := ⟨[none, some (XV.sv (.ptr 2 0 0 0)), some (XV.sv (.ptr 3 0 0 0)), some (XV.sv (.ptr 4 0 0 0)), none, some (XV.sv (.ptr 6 0 0 0)), none, some (XV.sv (.slc 7 1 0 i)), some (XV.int .i64 i)] ++ List.replicate 82 none, mkMem p (cert14 p) p.am.length ++ [(6, .cells 29 ((msg14 p).cells.map .raw)), (7, .vec 3 1 i (intsF (whos p i)))], 8⟩
set_option maxHeartbeats 8000000 in
theorem make14_can (p : Plan14) (h1 : p.am.length ≤ 1000) (h2 : p.who.length ≤ 100) : Makes Tryz.prog 32 [.box p.ac] [] (.cv (.agg (certCells (make14 p) (.ins 0 2 0 p.am.length) (.ins 0 2 1 p.who.length)))) (.abs (PackP [.vec 59 9 p.am.length (outsF (outs14 p p.am.length)), .vec 192 282 p.who.length (sgdsF (make14 p).sigs)])) := by
  refine Makes.of Tryz.T_ok Tryz.func32 rfl _ _ _ _ rfl rfl rfl rfl 20 (fun C hC => ?_)
  (replace hC : C.n0 = 2 := hC; change Tri _ _ _ ⟨_, _, 2⟩ _)
  (refine Tri.cut 2 Tryz.mixed Tryz.T_ok ?_; refine xZ ?_)
  (apply wP; exact (call_op rfl (entersB_of Tryz.func33 (by kernel_rfl)) rfl (end14_can.at [] trivial trivial)); refine xZ ?_)
  refine wD <| cutG <| Tri.ent (Ent.nilc (c := 16) (e := 43) (cs := cz14 p (.raw (.slice none 0 0)) (.raw (.slice none 0 0))) (j := 19) rfl rfl 59 9) <| Tri.seq ?_
  (refine Tri.cut 1 Tryz.mixed Tryz.T_ok ?_; refine xZ ?_)
  refine wD <| cutG <| Tri.block ?_
  refine Tri.loop (α := { i : Nat // i ≤ p.am.length }) (fun i => mkA p i.1) (fun i => p.am.length - i.1) ⟨0, Nat.zero_le _⟩ ?_ ?_
  · unfold mkA mkMem
    rw [cz14_eq]
    ((try dsimp only); refine Ent.renC [0, 1, 2, 3, 16, 18] hC ?_ ?_ <;> repeat' (first | exact trivial | exact rfl | exact ⟨_, rfl, rfl, rfl, Nat.le_refl _, fun _ _ => rfl⟩ | exact ⟨_, rfl, rfl, rfl, fun _ _ => rfl⟩ | exact ⟨_, rfl, rfl, rfl⟩ | exact ⟨_, rfl, rfl⟩ | refine ⟨_, rfl, rfl, rfl, by omega, fun k hk => ?_⟩ | refine ⟨?_, ?_⟩ | fail))
    all_goals exact absurd ‹_ < 0› (Nat.not_lt_zero _)
  rintro ⟨i, hi⟩
  dsimp only
  unfold mkA mkMem
  (refine Tri.cut 1 Tryz.mixed Tryz.T_ok ?_; refine xZ ?_)
  refine wC (fun hh => ?_) (fun hh => ?_)
  · (refine xG ?_)
    have h' : i < p.am.length := xW
    have hw : IntKind.i64.wrap ((i : Int) + 1) = ((i + 1 : Nat) : Int) := xW
    refine wD <| cutG <| Tri.seq <| Tri.block <| Tri.of Tryz.mixed Tryz.T_ok ?_
    (refine xB ?_)
    (repeat (refine wN ?_ ?_; exact xW; refine xG ?_))
    simp only [Nat.zero_add, Int.toNat_natCast]
    (refine wP _ _ (append_op Tryz.T_ok rfl rfl rfl rfl rfl [5, 22] (old_vec rfl rfl (Nat.le_refl _) rfl) (new_vec (lo := 0) rfl rfl (Nat.le_refl _) rfl) rfl (lt1 rfl) (by simp only [maxLen]; omega) (by dsimp only; omega)) ?_; refine xZ ?_)
    refine wD <| blockN <| cutG <| Tri.of Tryz.mixed Tryz.T_ok ?_
    (refine xB ?_)
    refine wD <| loopN ⟨⟨i + 1, h'⟩, by dsimp only; omega, ?_⟩
    rw [hw]
    ((try dsimp only); refine Ent.renC [0, 1, 2, 3, 4, 23] hC ?_ ?_ <;> repeat' (first | exact trivial | exact rfl | exact ⟨_, rfl, rfl, rfl, Nat.le_refl _, fun _ _ => rfl⟩ | exact ⟨_, rfl, rfl, rfl, fun _ _ => rfl⟩ | exact ⟨_, rfl, rfl, rfl⟩ | exact ⟨_, rfl, rfl⟩ | refine ⟨_, rfl, rfl, rfl, by omega, fun k hk => ?_⟩ | refine ⟨?_, ?_⟩ | fail))
    rw [outs14_succ]
    exact rowOf_join (outs14_len _ _).symm (out14_cells p i).symm hk
  · (refine xG ?_)
    have h' : i = p.am.length := xW
    subst h'
    refine wD <| cutE <| loopX <| blockX <| cutG <| Tri.merge (mkB p) (Tri.of Tryz.mixed Tryz.T_ok ?_) ?_
    · (refine xB ?_)
      refine wC (fun hb => ?_) (fun hb => ?_)
      · rw [u8_lit (n := 1) (c := 1) rfl, decide_eq_true_eq] at hb
        (refine xG ?_)
        refine wD ⟨rfl, ?_⟩
        unfold mkB mkMem
        rw [cert14_bent hb]
        ((try dsimp only); refine Ent.renC [0, 1, 2, 3, 4, 5] hC ?_ ?_ <;> repeat' (first | exact trivial | exact rfl | exact ⟨_, rfl, rfl, rfl, Nat.le_refl _, fun _ _ => rfl⟩ | exact ⟨_, rfl, rfl, rfl, fun _ _ => rfl⟩ | exact ⟨_, rfl, rfl, rfl⟩ | exact ⟨_, rfl, rfl⟩ | refine ⟨_, rfl, rfl, rfl, by omega, fun k hk => ?_⟩ | refine ⟨?_, ?_⟩ | fail))
      · rw [u8_lit (n := 1) (c := 1) rfl, decide_eq_false_iff_not] at hb
        (refine xG ?_)
        refine wD ⟨rfl, ?_⟩
        unfold mkB mkMem
        rw [cert14_plain hb]
        ((try dsimp only); refine Ent.renC [0, 1, 2, 3, 4, 5] hC ?_ ?_ <;> repeat' (first | exact trivial | exact rfl | exact ⟨_, rfl, rfl, rfl, Nat.le_refl _, fun _ _ => rfl⟩ | exact ⟨_, rfl, rfl, rfl, fun _ _ => rfl⟩ | exact ⟨_, rfl, rfl, rfl⟩ | exact ⟨_, rfl, rfl⟩ | refine ⟨_, rfl, rfl, rfl, by omega, fun k hk => ?_⟩ | refine ⟨?_, ?_⟩ | fail))
    have hmsg := rcertMsg_can (cert14 p) (by show (outs14 p p.am.length).length ≤ _; rw [outs14_len]; omega)
    have hm14 : msg14 p = bend14 p.bend (certMsg (cert14 p)) := rfl
    have clen : (cert14 p).outs.length = p.am.length := outs14_len _ _
    unfold mkB mkMem
    (refine Tri.cut 1 Tryz.mixed Tryz.T_ok ?_; refine xZ ?_)
    (apply wP; exact (call_op rfl (entersB_of Tryz.func69 (by kernel_rfl)) rfl (hmsg.at [5] ⟨lend_cert (c := cert14 p) (lend_vecN (lo := 0) (outs14_len _ _).symm rfl rfl (Nat.le_of_eq ((Nat.zero_add _).trans clen)) (fun i _ => by rw [Nat.zero_add]; rfl)) (lend_nil _ _), trivial⟩ trivial)); refine xZ ?_)
    obtain ⟨m, hm⟩ : ∃ m, certMsg (cert14 p) = m := ⟨_, rfl⟩
    rw [hm] at hm14 ⊢
    refine wD <| cutG <| Tri.ent (S' := mkC p m) ?_ ?_
    · unfold mkC mkMem
      ((try dsimp only); refine Ent.renC [0, 1, 2, 3, 4, 5, 11] hC ?_ ?_ <;> repeat' (first | exact trivial | exact rfl | exact ⟨_, rfl, rfl, rfl, Nat.le_refl _, fun _ _ => rfl⟩ | exact ⟨_, rfl, rfl, rfl, fun _ _ => rfl⟩ | exact ⟨_, rfl, rfl, rfl⟩ | exact ⟨_, rfl, rfl⟩ | refine ⟨_, rfl, rfl, rfl, by omega, fun k hk => ?_⟩ | refine ⟨?_, ?_⟩ | fail))
    unfold mkC mkMem
    refine Tri.merge (mkC p (msg14 p)) (Tri.of Tryz.mixed Tryz.T_ok ?_) ?_
    · (refine xB ?_)
      refine wC (fun hb => ?_) (fun hb => ?_)
      · rw [u8_lit (n := 2) (c := 2) rfl, decide_eq_true_eq] at hb
        (refine xG ?_)
        refine wD ⟨rfl, ?_⟩
        unfold mkC mkMem
        rw [hm14, bend14, if_pos hb, flip_cells]
        ((try dsimp only); refine Ent.renC [0, 1, 2, 3, 4, 5, 6] hC ?_ ?_ <;> repeat' (first | exact trivial | exact rfl | exact ⟨_, rfl, rfl, rfl, Nat.le_refl _, fun _ _ => rfl⟩ | exact ⟨_, rfl, rfl, rfl, fun _ _ => rfl⟩ | exact ⟨_, rfl, rfl, rfl⟩ | exact ⟨_, rfl, rfl⟩ | refine ⟨_, rfl, rfl, rfl, by omega, fun k hk => ?_⟩ | refine ⟨?_, ?_⟩ | fail))
      · rw [u8_lit (n := 2) (c := 2) rfl, decide_eq_false_iff_not] at hb
        (refine xG ?_)
        refine wD ⟨rfl, ?_⟩
        unfold mkC mkMem
        rw [hm14, bend14, if_neg hb]
        ((try dsimp only); refine Ent.renC [0, 1, 2, 3, 4, 5, 6] hC ?_ ?_ <;> repeat' (first | exact trivial | exact rfl | exact ⟨_, rfl, rfl, rfl, Nat.le_refl _, fun _ _ => rfl⟩ | exact ⟨_, rfl, rfl, rfl, fun _ _ => rfl⟩ | exact ⟨_, rfl, rfl, rfl⟩ | exact ⟨_, rfl, rfl⟩ | refine ⟨_, rfl, rfl, rfl, by omega, fun k hk => ?_⟩ | refine ⟨?_, ?_⟩ | fail))
    unfold mkC mkMem
    (refine Tri.cut 1 Tryz.mixed Tryz.T_ok ?_; refine xZ ?_)
    refine wD <| cutG <| Tri.ent (Ent.nils (t := 7) rfl 3 1) <| Tri.seq ?_
    (refine Tri.cut 1 Tryz.mixed Tryz.T_ok ?_; refine xZ ?_)
    refine wD <| cutG <| Tri.block ?_
    refine Tri.loop (α := { i : Nat // i ≤ p.who.length }) (fun i => mkD p i.1) (fun i => p.who.length - i.1) ⟨0, Nat.zero_le _⟩ ?_ ?_
    · unfold mkD mkMem
      ((try dsimp only); refine Ent.renC [0, 1, 2, 3, 4, 5, 6, 8] hC ?_ ?_ <;> repeat' (first | exact trivial | exact rfl | exact ⟨_, rfl, rfl, rfl, Nat.le_refl _, fun _ _ => rfl⟩ | exact ⟨_, rfl, rfl, rfl, fun _ _ => rfl⟩ | exact ⟨_, rfl, rfl, rfl⟩ | exact ⟨_, rfl, rfl⟩ | refine ⟨_, rfl, rfl, rfl, by omega, fun k hk => ?_⟩ | refine ⟨?_, ?_⟩ | fail))
      all_goals exact absurd ‹_ < 0› (Nat.not_lt_zero _)
    rintro ⟨i, hi⟩
    dsimp only
    unfold mkD mkMem
    (refine Tri.cut 1 Tryz.mixed Tryz.T_ok ?_; refine xZ ?_)
    refine wC (fun hh => ?_) (fun hh => ?_)
    · (refine xG ?_)
      have h' : i < p.who.length := xW
      have hw : IntKind.i64.wrap ((i : Int) + 1) = ((i + 1 : Nat) : Int) := xW
      have hidx : IntKind.i64.wrap (IntKind.i64.wrap ((p.who.length : Int) - 1) - (i : Int)) = ((p.who.length - 1 - i : Nat) : Int) := xW
      have hu : ∀ k, IntKind.i64.wrap (((p.who.getD k 0).toNat : Nat) : Int) = (((p.who.getD k 0).toNat : Nat) : Int) := fun k => wrap_id (by have := (p.who.getD k 0).toNat_lt; omega)
      refine wD <| cutG <| Tri.seq <| Tri.block <| Tri.of Tryz.mixed Tryz.T_ok ?_
      (refine xB ?_)
      refine wC (fun hb => ?_) (fun hb => ?_)
      · rw [u8_lit (n := 3) (c := 3) rfl, decide_eq_true_eq] at hb
        have hwho : who14 p i = (((p.who.getD (p.who.length - 1 - i) 0).toNat : Nat) : Int) := by rw [who14, if_pos hb]
        (refine xG ?_)
        simp only [hidx]
        (repeat (refine wN ?_ ?_; exact xW; refine xG ?_))
        simp only [Nat.zero_add, Int.toNat_natCast, hu]
        rw [← hwho]
        (refine wP _ _ (append_op Tryz.T_ok rfl rfl rfl rfl rfl [7, 32] (old_vec rfl rfl (Nat.le_refl _) rfl) (new_vec (lo := 0) rfl rfl (Nat.le_refl _) rfl) rfl cut1_one (by simp only [maxLen]; omega) (by dsimp only; omega)) ?_; refine xZ ?_)
        refine wD <| blockN <| cutG <| Tri.of Tryz.mixed Tryz.T_ok ?_
        (refine xB ?_)
        refine wD <| loopN ⟨⟨i + 1, h'⟩, by dsimp only; omega, ?_⟩
        rw [hw]
        ((try dsimp only); refine Ent.renC [0, 1, 2, 3, 4, 5, 6, 33] hC ?_ ?_ <;> repeat' (first | exact trivial | exact rfl | exact ⟨_, rfl, rfl, rfl, Nat.le_refl _, fun _ _ => rfl⟩ | exact ⟨_, rfl, rfl, rfl, fun _ _ => rfl⟩ | exact ⟨_, rfl, rfl, rfl⟩ | exact ⟨_, rfl, rfl⟩ | refine ⟨_, rfl, rfl, rfl, by omega, fun k hk => ?_⟩ | refine ⟨?_, ?_⟩ | fail))
        rw [whos_succ]
        exact join_ints (whos_len _ _).symm (fun _ _ => rfl) rfl hk
      · rw [u8_lit (n := 3) (c := 3) rfl, decide_eq_false_iff_not] at hb
        have hwho : who14 p i = (((p.who.getD i 0).toNat : Nat) : Int) := by rw [who14, if_neg hb]
        (refine xG ?_)
        (repeat (refine wN ?_ ?_; exact xW; refine xG ?_))
        simp only [Nat.zero_add, Int.toNat_natCast, hu]
        rw [← hwho]
        (refine wP _ _ (append_op Tryz.T_ok rfl rfl rfl rfl rfl [7, 25] (old_vec rfl rfl (Nat.le_refl _) rfl) (new_vec (lo := 0) rfl rfl (Nat.le_refl _) rfl) rfl cut1_one (by simp only [maxLen]; omega) (by dsimp only; omega)) ?_; refine xZ ?_)
        refine wD <| blockN <| cutG <| Tri.of Tryz.mixed Tryz.T_ok ?_
        (refine xB ?_)
        refine wD <| loopN ⟨⟨i + 1, h'⟩, by dsimp only; omega, ?_⟩
        rw [hw]
        ((try dsimp only); refine Ent.renC [0, 1, 2, 3, 4, 5, 6, 26] hC ?_ ?_ <;> repeat' (first | exact trivial | exact rfl | exact ⟨_, rfl, rfl, rfl, Nat.le_refl _, fun _ _ => rfl⟩ | exact ⟨_, rfl, rfl, rfl, fun _ _ => rfl⟩ | exact ⟨_, rfl, rfl, rfl⟩ | exact ⟨_, rfl, rfl⟩ | refine ⟨_, rfl, rfl, rfl, by omega, fun k hk => ?_⟩ | refine ⟨?_, ?_⟩ | fail))
        rw [whos_succ]
        exact join_ints (whos_len _ _).symm (fun _ _ => rfl) rfl hk
    · (refine xG ?_)
      have h' : i = p.who.length := xW
      subst h'
      have hsg := signed_can (msg14 p) (whos p p.who.length) (by rw [whos_len]; exact h2)
      rw [whos_len] at hsg
      refine wD <| cutE <| loopX <| blockX <| cutG <| Tri.of Tryz.mixed Tryz.T_ok ?_
      (refine xB ?_)
      (apply wP; exact (call_op rfl (entersB_of Tryz.func70 (by kernel_rfl)) rfl (hsg.at [7] ⟨lend_plain rfl, lend_vecN (lo := 0) rfl rfl rfl (Nat.le_of_eq (Nat.zero_add _)) (fun i _ => by rw [Nat.zero_add]), lend_nil _ _, trivial⟩ trivial)); refine xZ ?_)
      refine wD (Ends.made (.inr rfl) (Ent.pack2 [5, 15] [.vec 59 9 p.am.length (outsF (outs14 p p.am.length)), .vec 192 282 p.who.length (sgdsF (make14 p).sigs)] (by decide) rfl rfl (fun j i ch hi hj => ?_)) rfl (Nat.le_of_ble_eq_true rfl) rfl)
      rcases j with _ | _ | j
      · cases hi; cases hj; exact ⟨_, rfl, ChLe.refl _ rfl⟩
      · cases hi; cases hj; exact ⟨_, rfl, ChLe.refl _ rfl⟩
      · cases hi
end Go.Proofs.YtnpkdoggfnlapaaGreatDoor
namespace Go.Proofs.YtnpkdoggfnlapaaGreatDoor
set_option maxRecDepth 100000
open Go.Sx
theorem pget_ne {l : List (Pt × Coin)} {k q : Pt} {v : Coin} (h : q ≠ k) : mget (mput l k v) q = mget l q := by
  induction l with
  | nil => simp [mput, mget, Ne.symm h]
  | cons x r ih =>
    rw [mput]
    by_cases hx : x.1 = k
    · rw [if_pos hx, mget, mget, if_neg (fun e => h e.symm), if_neg (fun e => h (by rw [← hx]; exact e.symm))]
    · rw [if_neg hx, mget, mget, ih]
theorem pget_self {l : List (Pt × Coin)} {k : Pt} {v : Coin} : mget (mput l k v) k = some v := by
  induction l with
  | nil => simp [mput, mget]
  | cons x r ih =>
    rw [mput]
    by_cases hx : x.1 = k
    · rw [if_pos hx, mget, if_pos rfl]
    · rw [if_neg hx, mget, if_neg hx, ih]
theorem plen_new {l : List (Pt × Coin)} {k : Pt} {v : Coin} (h : mget l k = none) : (mput l k v).length = l.length + 1 := by
  induction l with
  | nil => rfl
  | cons x r ih =>
    rw [mget] at h
    by_cases hx : x.1 = k
    · rw [if_pos hx] at h; cases h
    · rw [if_neg hx] at h
      rw [mput, if_neg hx, List.length_cons, ih h, List.length_cons]
def sumO : List OutM → Int
  | [] => 0
  | o :: l => o.amt.toInt + sumO l
theorem sumO_nonneg : ∀ {l : List OutM}, (∀ o ∈ l, 1 ≤ o.amt.toInt) → 0 ≤ sumO l
  | [], _ => Int.le_refl 0
  | o :: l, h => by
    have h1 := h o (List.mem_cons_self ..)
    have h2 := sumO_nonneg fun o ho => h o (List.mem_cons_of_mem _ ho)
    rw [sumO]; omega
def coinO (h : Int64) (o : OutM) : Coin := ⟨o.to, o.amt, h, false⟩
theorem ptAt_no {id : H8} {i : Nat} (h : i < 1000000) : (ptAt id i).no.toInt = (i : Int) := (ofNat_toInt h).symm
theorem ptAt_ne {id : H8} {i j : Nat} (hi : i < 1000000) (hj : j < 1000000) (h : i ≠ j) : ptAt id i ≠ ptAt id j := by
  intro e
  have h1 := ptAt_no (id := id) hi
  rw [e, ptAt_no hj] at h1
  omega
theorem ptAt_id {a b : H8} {i j : Nat} (h : a ≠ b) : ptAt a i ≠ ptAt b j := fun e => h (congrArg Pt.tx e)
theorem okB_pt {S : USet} {p : Pt} {k : Coin} (h1 : S.has p = false) (h2 : 0 ≤ p.no.toInt ∧ p.no.toInt ≤ 255) (h3 : 1 ≤ k.amt.toInt) (h4 : 0 ≤ S.total) (h5 : S.total + k.amt.toInt ≤ 1125899906842624) : S.okB p k = true := by
  have e : IntKind.i64.wrap (S.total + k.amt.toInt) = S.total + k.amt.toInt := wrap_id (by omega)
  simp only [USet.okB, h1, bothB, mayB, e, Bool.and_eq_true, Bool.not_eq_true', decide_eq_false_iff_not, decide_eq_true_eq, Bool.not_false, and_true]
  omega
structure PaidS (id : H8) (h : Int64) (i : Nat) (l : List OutM) (S S' : USet) : Prop where
  total : S'.total = S.total + sumO l
  len : S'.coins.length = S.coins.length + l.length
  steps : S'.steps.length = S.steps.length + l.length
  old : ∀ q, (∀ k, k < l.length → q ≠ ptAt id (i + k)) → mget S'.coins q = mget S.coins q
  new : ∀ k, k < l.length → mget S'.coins (ptAt id (i + k)) = some (coinO h (l.getD k default))
theorem outsGo_ok (id : H8) (h : Int64) : ∀ (l : List OutM) (S : USet) (i : Nat), (∀ o ∈ l, 1 ≤ o.amt.toInt) → 0 ≤ S.total → S.total + sumO l ≤ 1125899906842624 → i + l.length ≤ 256 → (∀ k, k < l.length → mget S.coins (ptAt id (i + k)) = none) →
    ∃ S', outsGo id h false S i l = (S', 0) ∧ PaidS id h i l S S'
  | [], S, i, _, _, _, _, _ => ⟨S, rfl, by simp [sumO], rfl, rfl, fun _ _ => rfl, fun k hk => absurd hk (Nat.not_lt_zero _)⟩
  | o :: l, S, i, h1, h2, h3, h4, h5 => by
    have ho := h1 o (List.mem_cons_self ..)
    have hl := sumO_nonneg fun o ho => h1 o (List.mem_cons_of_mem _ ho)
    rw [sumO] at h3
    simp only [List.length_cons] at h4
    have h0 : mget S.coins (ptAt id i) = none := h5 0 (by simp)
    have hh : S.has (ptAt id i) = false := by rw [USet.has, h0]; rfl
    have hn : (ptAt id i).no.toInt = (i : Int) := ptAt_no (by omega)
    have hok : S.okB (ptAt id i) (coinO h o) = true := okB_pt hh (by omega) ho h2 (by show S.total + o.amt.toInt ≤ _; omega)
    have et : (S.add1 (ptAt id i) (coinO h o)).total = S.total + o.amt.toInt := wrap_id (show -2 ^ 63 ≤ S.total + o.amt.toInt ∧ S.total + o.amt.toInt < 2 ^ 63 by omega)
    have ec : (S.add1 (ptAt id i) (coinO h o)).coins = mput S.coins (ptAt id i) (coinO h o) := rfl
    have es : (S.add1 (ptAt id i) (coinO h o)).steps.length = S.steps.length + 1 := by simp [USet.add1]
    obtain ⟨S', r1, r2⟩ := outsGo_ok id h l (S.add1 (ptAt id i) (coinO h o)) (i + 1) (fun o ho => h1 o (List.mem_cons_of_mem _ ho)) (by rw [et]; omega) (by rw [et]; omega) (by omega) (fun k hk => by
      rw [ec, pget_ne (ptAt_ne (by omega) (by omega) (by omega)), show i + 1 + k = i + (k + 1) by omega]
      exact h5 (k + 1) (by simp only [List.length_cons]; omega))
    refine ⟨S', ?_, ?_, ?_, ?_, ?_, ?_⟩
    · rw [outsGo, if_neg (by rw [hh]; simp), if_pos (show S.okB (ptAt id i) ⟨o.to, o.amt, h, false⟩ = true from hok)]
      exact r1
    · rw [r2.total, et, sumO]; omega
    · rw [r2.len, ec, plen_new h0, List.length_cons]; omega
    · rw [r2.steps, es, List.length_cons]; omega
    · intro q hq
      rw [r2.old q (fun k hk => by rw [show i + 1 + k = i + (k + 1) by omega]; exact hq (k + 1) (by simp only [List.length_cons]; omega)), ec]
      exact pget_ne (hq 0 (by simp))
    · intro k hk
      match k with
      | 0 =>
        rw [Nat.add_zero, r2.old _ (fun k hk => ptAt_ne (by omega) (by omega) (by omega)), ec, pget_self]; rfl
      | k + 1 =>
        have := r2.new k (by simpa using hk)
        rw [show i + (k + 1) = i + 1 + k by omega, this]; rfl
def sumZ : List Int → Int
  | [] => 0
  | a :: l => a + sumZ l
theorem sumO_amts : ∀ l : List OutM, sumZ (outAmts l l.length) = sumO l
  | [] => rfl
  | o :: l => by
    have e : outAmts (o :: l) (o :: l).length = o.amt.toInt :: outAmts l l.length := by simp [outAmts]
    rw [e, sumZ, sumO, sumO_amts l]
theorem sumM_some : ∀ {l : List Int} {acc v : Int}, sumM acc l = some v → v = acc + sumZ l ∧ ∀ a ∈ l, 0 ≤ a
  | [], acc, v, h => by
    rw [sumM] at h
    cases h
    exact ⟨by simp [sumZ], fun a ha => by cases ha⟩
  | a :: l, acc, v, h => by
    rw [sumM] at h
    by_cases hb : bothB acc a (IntKind.i64.wrap (acc + a)) = true
    · rw [if_pos hb] at h
      obtain ⟨h1, h2⟩ := sumM_some h
      simp only [bothB, mayB, Bool.and_eq_true, decide_eq_true_eq] at hb
      have e : IntKind.i64.wrap (acc + a) = acc + a := wrap_id (by omega)
      rw [e] at h1
      refine ⟨by rw [h1, sumZ]; omega, fun b hb' => ?_⟩
      rcases List.mem_cons.1 hb' with rfl | hb'
      · omega
      · exact h2 b hb'
    · rw [if_neg hb] at h; cases h
theorem sumM_ok : ∀ {l : List Int} {acc : Int}, 0 ≤ acc → (∀ a ∈ l, 0 ≤ a) → acc + sumZ l ≤ 1125899906842624 → sumM acc l = some (acc + sumZ l)
  | [], acc, _, _, _ => by simp [sumM, sumZ]
  | a :: l, acc, h1, h2, h3 => by
    have ha := h2 a (List.mem_cons_self ..)
    have hl : 0 ≤ sumZ l := by
      clear h3
      have h4 := fun b hb => h2 b (List.mem_cons_of_mem a hb)
      clear h2 ha
      induction l with
      | nil => exact Int.le_refl 0
      | cons b r ih =>
        have := h4 b (List.mem_cons_self ..)
        have := ih fun c hc => h4 c (List.mem_cons_of_mem _ hc)
        rw [sumZ]; omega
    rw [sumZ] at h3
    have e : IntKind.i64.wrap (acc + a) = acc + a := wrap_id (by omega)
    have hb : bothB acc a (acc + a) = true := by
      simp only [bothB, mayB, Bool.and_eq_true, decide_eq_true_eq]; omega
    rw [sumM, e, if_pos hb, sumM_ok (by omega) (fun b hb => h2 b (List.mem_cons_of_mem _ hb)) (by omega), sumZ]
    congr 1; omega
theorem amts_mem {l : List OutM} {n : Nat} {a : Int} (h : a ∈ outAmts l n) : ∃ o ∈ l, a = o.amt.toInt := by
  rw [outAmts, List.mem_map] at h
  obtain ⟨o, ho, rfl⟩ := h
  exact ⟨o, List.mem_of_mem_take ho, rfl⟩
theorem cert_sum {c : CertM} (h1 : ∀ o ∈ c.outs, 1 ≤ o.amt.toInt) (h2 : sumO c.outs ≤ 1125899906842624) : sumM 0 (outAmts c.outs c.outs.length) = some (sumO c.outs) := by
  have := sumM_ok (l := outAmts c.outs c.outs.length) (acc := 0) (Int.le_refl 0) (fun a ha => by obtain ⟨o, ho, rfl⟩ := amts_mem ha; have := h1 o ho; omega) (by rw [sumO_amts]; omega)
  rw [this, sumO_amts, Int.zero_add]
end Go.Proofs.YtnpkdoggfnlapaaGreatDoor
namespace Go.Proofs.YtnpkdoggfnlapaaGreatDoor
set_option maxRecDepth 100000
open Go.Sx
theorem key_at {k : Nat} (h : k < 3) : mp.keys.getD k default = treeH (qseed (k : Int)) := by
  show (qkeys 3).getD k default = _
  rw [qkeys, List.getD_eq_getElem?_getD, List.getElem?_map, List.getElem?_range h]
  rfl
theorem right9 {m : H8} {who : List Int} {i k : Nat} (hk : who.getD i 0 = (k : Int)) (h : k < 3) : rightB mp m (sgn9 m who i) = true := by
  have e1 : (sgn9 m who i).key = (k : Int) := hk
  have e2 : (sgn9 m who i).sig = signM (qseed (k : Int)) (i % 8) m := by rw [← hk]; rfl
  have h3 : mp.keys.length = 3 := mp_len
  rw [rightB, e1, e2, Int.toNat_natCast, key_at h, sign_believed _ _ (Nat.mod_lt _ (by decide)), h3, decide_eq_true (Int.natCast_nonneg k), decide_eq_true (show (k : Int) < ((3 : Nat) : Int) by omega)]
  rfl
theorem quor_two {m : H8} {who : List Int} {a b : Nat} (h0 : who.getD 0 0 = (a : Int)) (h1 : who.getD 1 0 = (b : Int)) (hab : a < b) (hb : b < 3) : quorB mp m (signL m who 2) = true := by
  have e : signL m who 2 = [sgn9 m who 0, sgn9 m who 1] := rfl
  have k0 : (sgn9 m who 0).key = (a : Int) := h0
  have k1 : (sgn9 m who 1).key = (b : Int) := h1
  have hn : mp.need = 2 := rfl
  rw [quorB, mp_ok, e, hn, ordG, ordG, ordG, k0, k1, right9 h0 (by omega), right9 h1 hb, decide_eq_false (show ¬ (a : Int) ≤ -1 by omega), decide_eq_false (show ¬ (b : Int) ≤ (a : Int) by omega)]
  rfl
theorem certMsg_make (p : Plan14) : certMsg (make14 p) = certMsg (cert14 p) := by
  have h : bareCert (make14 p) = bareCert (cert14 p) := rfl
  unfold certMsg
  rw [h]
structure PlanOK (p : Plan14) (a b : Nat) : Prop where
  bend : p.bend = 0
  who : p.who.length = 2
  ha : (p.who.getD 0 0).toNat = a
  hb : (p.who.getD 1 0).toNat = b
  lt : a < b
  up : b < 3
  side : 0 ≤ p.side ∧ p.side ≤ 7
  ep : 0 ≤ p.ep ∧ p.ep ≤ 400
  qual : 0 ≤ p.qual ∧ p.qual ≤ 2147483647
  few : p.am.length ≤ 16
  am : ∀ i, i < p.am.length → 1 ≤ (p.am.getD i 0).toInt ∧ (p.am.getD i 0).toInt ≤ 1125899906842624
theorem outs14_mem {p : Plan14} {n : Nat} {o : OutM} (h : o ∈ outs14 p n) : ∃ i, i < n ∧ o = out14 p i := by
  rw [outs14, List.mem_map] at h
  obtain ⟨i, hi, rfl⟩ := h
  exact ⟨i, List.mem_range.1 hi, rfl⟩
section
variable {p : Plan14} {a b : Nat} (hp : PlanOK p a b)
include hp
theorem plan_fin : fin14 p = finH := by rw [fin14, hp.bend, if_neg (by decide)]
theorem plan_msg : msg14 p = certMsg (make14 p) := by rw [msg14, bend14, hp.bend, if_neg (by decide), certMsg_make]
theorem plan_whos : (whos p 2).getD 0 0 = (a : Int) ∧ (whos p 2).getD 1 0 = (b : Int) := by
  have e0 : (whos p 2).getD 0 0 = who14 p 0 := rfl
  have e1 : (whos p 2).getD 1 0 = who14 p 1 := rfl
  rw [e0, e1, who14, who14, hp.bend, if_neg (by decide), if_neg (by decide), hp.ha, hp.hb]
  exact ⟨rfl, rfl⟩
theorem plan_sigs : (make14 p).sigs = signL (certMsg (make14 p)) (whos p 2) 2 := by
  rw [← plan_msg hp, ← hp.who]; rfl
theorem plan_quor : quorB mp (certMsg (make14 p)) (make14 p).sigs = true := by
  rw [plan_sigs hp]
  generalize certMsg (make14 p) = m
  exact quor_two (plan_whos hp).1 (plan_whos hp).2 hp.lt hp.up
theorem plan_amt : ∀ o ∈ (make14 p).outs, 1 ≤ o.amt.toInt := fun o ho => by
  obtain ⟨i, hi, rfl⟩ := outs14_mem ho
  exact (hp.am i hi).1
theorem plan_ok : certOK (make14 p) = true := by
  refine certOK_all.2 ⟨?_, ⟨hp.side, hp.ep, hp.qual⟩, ?_, ?_⟩
  · rw [plan_sigs hp]
    have k0 := (plan_whos hp).1
    have k1 := (plan_whos hp).2
    generalize certMsg (make14 p) = m
    have e : signL m (whos p 2) 2 = [sgn9 m (whos p 2) 0, sgn9 m (whos p 2) 1] := rfl
    have h1 := hp.lt
    have h2 := hp.up
    rw [e, List.all_cons, List.all_cons, List.all_nil, sgdOK_iff.2 ⟨?_, ?_⟩, sgdOK_iff.2 ⟨?_, ?_⟩]
    · rfl
    · show 0 ≤ (whos p 2).getD 1 0 ∧ (whos p 2).getD 1 0 ≤ 4
      rw [k1]; omega
    · show 0 ≤ ((1 % 8 : Nat) : Int) ∧ ((1 % 8 : Nat) : Int) ≤ 255
      decide
    · show 0 ≤ (whos p 2).getD 0 0 ∧ (whos p 2).getD 0 0 ≤ 4
      rw [k0]; omega
    · show 0 ≤ ((0 % 8 : Nat) : Int) ∧ ((0 % 8 : Nat) : Int) ≤ 255
      decide
  · show outsOK (outs14 p p.am.length) = true
    rw [outsOK, Bool.and_eq_true, decide_eq_true_eq, outs14_len]
    refine ⟨List.all_eq_true.2 fun o ho => ?_, hp.few⟩
    obtain ⟨i, hi, rfl⟩ := outs14_mem ho
    have h1 := hp.am i hi
    have hz : zeroB (out14 p i).to = false := by
      rw [zeroB, decide_eq_false_iff_not]
      intro h
      have := congrArg H8.b0 h
      cases this
    rw [outOK, hz, moneyB, withinB]
    show (true && (decide (1 ≤ (p.am.getD i 0).toInt) && decide ((p.am.getD i 0).toInt ≤ 1125899906842624))) = true
    rw [decide_eq_true h1.1, decide_eq_true h1.2]; rfl
  · have e : (make14 p).sigs.length = 2 := by rw [show (make14 p).sigs.length = p.who.length from signL_len _ _ _, hp.who]
    rw [e]; decide
end
structure Goes (x : SideM) : Prop where
  par : x.par = mp
  made : x.made = 3
  ceased : x.ceased = false
theorem timed_mp {x : SideM} (h1 : x.par = mp) (h2 : x.made = 3) : timedB x = true := by
  rw [timed_iff, h1, h2]; decide
theorem len_mp {x : SideM} (h1 : x.par = mp) : x.par.len = 4 ∧ x.par.win = 2 := by rw [h1]; exact ⟨rfl, rfl⟩
theorem ends_mp {x : SideM} (h1 : x.par = mp) (h2 : x.made = 3) {e : Int} (he : 0 ≤ e ∧ e ≤ 400) : endsX x e = 3 + (e + 1) * 4 := by
  have hw : withinB e 0 400 = true := by rw [withinB, decide_eq_true he.1, decide_eq_true he.2]; rfl
  rw [endsX, timed_mp h1 h2, hw, if_neg (by decide), (len_mp h1).1, h2]
  have e1 : wr (e + 1) = e + 1 := wrap_id (by omega)
  have e2 : wr ((e + 1) * 4) = (e + 1) * 4 := wrap_id (by omega)
  rw [e1, e2]
  exact wrap_id (by omega)
theorem open_mp {x : SideM} (h1 : x.par = mp) (h2 : x.made = 3) {e h : Int} (he : 0 ≤ e ∧ e ≤ 400) : openX x e h = (decide (3 + (e + 1) * 4 < h) && decide (h ≤ 3 + (e + 1) * 4 + 2)) := by
  have hw : withinB e 0 400 = true := by rw [withinB, decide_eq_true he.1, decide_eq_true he.2]; rfl
  rw [openX, timed_mp h1 h2, hw, ends_mp h1 h2 he, (len_mp h1).2, Bool.true_and, Bool.true_and, show wr (3 + (e + 1) * 4 + 2) = 3 + (e + 1) * 4 + 2 from wrap_id (by omega)]
theorem fits_zero {x : SideM} {c : CertM} {h : Int} {fin : H8} (h1 : x.ceased = false) (h2 : openX x c.ep h = true) (h3 : c.fin = fin) (h4 : x.pend = false ∨ x.cert.qual < c.qual) (h5 : sumM 0 (outAmts c.outs c.outs.length) = some (sumO c.outs)) (h6 : sumO c.outs ≤ x.bal) : fitsX x c h fin = 0 := by
  have e4 : (x.pend && decide (c.qual ≤ x.cert.qual)) = false := by
    rcases h4 with h4 | h4
    · rw [h4, Bool.false_and]
    · rw [decide_eq_false (by omega), Bool.and_false]
  rw [fitsX, h1, h2, h3, e4, h5, if_neg (by simp), if_neg (by simp), if_neg (by simp), if_neg]
  simp only [Option.isSome_some, Bool.not_true, Bool.false_or, Option.getD_some, decide_eq_true_eq]
  omega
theorem take_plan {L : List SideM} {p : Plan14} {a b : Nat} {h : Int} {x : SideM} (hp : PlanOK p a b) (hi : p.side.toNat < L.length) (hx : L.getD p.side.toNat default = x) (hg : Goes x) (ho : 3 + (p.ep + 1) * 4 < h ∧ h ≤ 3 + (p.ep + 1) * 4 + 2) (hq : x.pend = false ∨ x.cert.qual < p.qual) (hs : sumO (make14 p).outs ≤ x.bal) (hm : sumO (make14 p).outs ≤ 1125899906842624) :
    takeC L (make14 p) h finH = (L.set p.side.toNat (waitX x (make14 p)), 0) := by
  have hside : (make14 p).side = p.side := rfl
  have hep : (make14 p).ep = p.ep := rfl
  have hfin : (make14 p).fin = finH := plan_fin hp
  have hc : checkC L (make14 p) h finH = 0 := by
    have hf : fitsX x (make14 p) h finH = 0 := fits_zero hg.ceased (by rw [hep, open_mp hg.par hg.made hp.ep, decide_eq_true ho.1, decide_eq_true ho.2]; rfl) hfin hq (cert_sum (plan_amt hp) hm) hs
    have hqu := plan_quor hp
    rw [← hg.par] at hqu
    have h1 := hp.side
    rw [checkC, plan_ok hp, if_neg (by simp), hside, if_neg (by omega), hx, if_pos hf, if_pos hqu]
  rw [takeC, if_pos hc, hside, hx]
def dueN (h : Nat) : Bool := decide (9 ≤ h) && decide ((h - 9) % 4 = 0)
theorem due_mp {x : SideM} (hg : Goes x) {h : Nat} (hh : h ≤ 1000) : (dueX x (h : Int)).2 = dueN h ∧ (dueN h = true → (dueX x (h : Int)).1 = (((h - 9) / 4 : Nat) : Int)) := by
  have hw : wr ((h : Int) - x.par.win) = (h : Int) - 2 := by rw [(len_mp hg.par).2]; exact wrap_id (by omega)
  rw [dueX, hg.ceased, if_neg (by simp), hw]
  by_cases h5 : h ≤ 5
  · have he : epochX x ((h : Int) - 2) = (0, false) := by
      rw [epochX, hg.made, if_pos]
      rw [Bool.or_eq_true, decide_eq_true_eq]; exact .inr (by omega)
    have hd : dueN h = false := by rw [dueN, decide_eq_false (by omega), Bool.false_and]
    rw [he, if_pos (by simp), hd]
    exact ⟨rfl, fun h => by cases h⟩
  · have e0 : ((((h : Int) - 6)).tdiv 4) = (((h - 6) / 4 : Nat) : Int) := by
      rw [show ((h : Int) - 6) = ((h - 6 : Nat) : Int) by omega]; rfl
    have he : epochX x ((h : Int) - 2) = ((((h - 6) / 4 : Nat) : Int), true) := by
      rw [epochX, hg.made, timed_mp hg.par hg.made, if_neg (by rw [Bool.not_true, Bool.false_or, decide_eq_true_eq]; omega), (len_mp hg.par).1]
      rw [show wr ((h : Int) - 2 - 3) = (h : Int) - 5 by rw [show (h : Int) - 2 - 3 = (h : Int) - 5 by omega]; exact wrap_id (by omega), show wr ((h : Int) - 5 - 1) = (h : Int) - 6 by rw [show (h : Int) - 5 - 1 = (h : Int) - 6 by omega]; exact wrap_id (by omega), e0]
      congr 1
      exact wrap_id (by omega)
    rw [he]
    dsimp only
    rw [ends_mp hg.par hg.made (by omega), decide_eq_false (show ¬ (400 : Int) < (((h - 6) / 4 : Nat) : Int) by omega), Bool.not_true, Bool.false_or, Bool.false_or]
    by_cases hd : 9 ≤ h ∧ (h - 9) % 4 = 0
    · have e1 : dueN h = true := by rw [dueN, decide_eq_true hd.1, decide_eq_true hd.2]; rfl
      rw [if_neg (by rw [bne_iff_ne, ne_eq, Decidable.not_not]; omega), e1]
      exact ⟨rfl, fun _ => by show (((h - 6) / 4 : Nat) : Int) = _; omega⟩
    · have e1 : dueN h = false := by
        rw [dueN, Bool.and_eq_false_iff, decide_eq_false_iff_not, decide_eq_false_iff_not]
        by_cases h9 : 9 ≤ h
        · exact .inr fun h10 => hd ⟨h9, h10⟩
        · exact .inl h9
      rw [if_pos (by rw [bne_iff_ne]; omega), e1]
      exact ⟨rfl, fun h => by cases h⟩
theorem due_ceased {x : SideM} (h : x.ceased = true) (n : Int) : dueX x n = (0, false) := by rw [dueX, if_pos h]
end Go.Proofs.YtnpkdoggfnlapaaGreatDoor
namespace Go.Proofs.YtnpkdoggfnlapaaGreatDoor
set_option maxRecDepth 100000
open Go.Sx
theorem endOne_idle {h : Int64} {i : Nat} {L : List SideM} {S : USet} {x : SideM} (hd : (dueX x h.toInt).2 = false) : endOne h i L S x = ((L, S), 0) := by rw [endOne, if_pos hd]
theorem endOne_cease {h : Int64} {i : Nat} {L : List SideM} {S : USet} {x : SideM} (hd : (dueX x h.toInt).2 = true) (hp : x.pend = false ∨ x.cert.ep ≠ (dueX x h.toInt).1) : endOne h i L S x = ((L.set i (ceaseX x h.toInt), S), 0) := by
  rw [endOne, if_neg (by rw [hd]; simp), if_neg]
  rw [Bool.and_eq_true, beq_iff_eq]
  rintro ⟨h1, h2⟩
  rcases hp with hp | hp
  · rw [hp] at h1; cases h1
  · exact hp h2
theorem endOne_pay {h : Int64} {i : Nat} {L : List SideM} {S S' : USet} {x : SideM} (hd : (dueX x h.toInt).2 = true) (hp : x.pend = true) (he : x.cert.ep = (dueX x h.toInt).1) (hg : payGo S x i h = (S', 0)) : endOne h i L S x = ((L.set i (payX x), S'), 0) := by
  rw [endOne, if_neg (by rw [hd]; simp), if_pos (by rw [Bool.and_eq_true, beq_iff_eq]; exact ⟨hp, he⟩), hg, if_pos rfl]
structure CanPay (x : SideM) : Prop where
  am : ∀ o ∈ x.cert.outs, 1 ≤ o.amt.toInt
  few : x.cert.outs.length ≤ 16
  sum : sumO x.cert.outs ≤ x.bal
theorem pay_plain {x : SideM} {S : USet} {i : Int} {h : Int64} (hx : CanPay x) (h1 : 0 ≤ S.total) (h2 : S.total + sumO x.cert.outs ≤ 1125899906842624) (hf : ∀ k, k < x.cert.outs.length → mget S.coins (ptAt (paidH i x.cert.ep x.cert.fin) (0 + k)) = none) :
    ∃ S', payGo S x i h = (S', 0) ∧ PaidS (paidH i x.cert.ep x.cert.fin) h 0 x.cert.outs S S' :=
  outsGo_ok _ h x.cert.outs S 0 hx.am h1 h2 (by have := hx.few; omega) hf
theorem pay_vals {x : SideM} (hx : CanPay x) (hb : x.bal ≤ 1125899906842624) (hm : 0 ≤ x.mat ∧ x.mat ≤ 1125899906842624) : payX x = { x with bal := x.bal - sumO x.cert.outs, mat := x.mat + sumO x.cert.outs, root := x.cert.root, pend := false, cert := cert0 } := by
  have h1 := sumO_nonneg hx.am
  have h2 := hx.sum
  have hs : certSum x.cert = sumO x.cert.outs := by rw [certSum, cert_sum hx.am (by omega)]; rfl
  rw [payX, hs, show wr (x.bal - sumO x.cert.outs) = x.bal - sumO x.cert.outs from wrap_id (by omega), show wr (x.mat + sumO x.cert.outs) = x.mat + sumO x.cert.outs from wrap_id (by omega)]
theorem toInt_ofNat {n : Nat} (h : n < 1000000) : (Int64.ofNat n).toInt = (n : Int) := (ofNat_toInt h).symm
theorem endN_step {h : Int64} {L Li : List SideM} {S Si : USet} {i : Nat} (h0 : endN h L S i = ((Li, Si), 0)) : endN h L S (i + 1) = endOne h i Li Si (Li.getD i default) := by rw [endN, h0, if_pos rfl]
def p0 : Plan14 := ⟨0, 0, 3, [4], [0, 2], 0⟩
theorem p0_ok : PlanOK p0 0 2 := ⟨rfl, rfl, rfl, rfl, by decide, by decide, by decide, by decide, by decide, by decide, fun i hi => by
  obtain rfl : i = 0 := by have : i < 1 := hi; omega
  decide⟩
theorem p0_sum : sumO (make14 p0).outs = 4 := by
  show sumO [out14 p0 0] = 4
  decide
theorem goes_start {m : Int} (h1 : 1 ≤ m) (h2 : m ≤ 1000000000) : Goes (sideN m) ∧ (sideN m).bal = m ∧ (sideN m).mat = 0 ∧ (sideN m).fwd = m ∧ (sideN m).pend = false ∧ (sideN m).cert = cert0 ∧ (sideN m).used = [] := by
  rw [sideN_is h1 h2]
  exact ⟨⟨rfl, rfl, rfl⟩, rfl, rfl, rfl, rfl, rfl, rfl⟩
theorem awake15_law : ∃ (x1 x2 : SideM) (S : USet), takeC (fillL [9, 9] 2) (make14 p0) 8 finH = ([waitX (sideN 9) (make14 p0), sideN 9], 0) ∧ endE (Int64.ofNat 9) [waitX (sideN 9) (make14 p0), sideN 9] USet.empty = (([x1, x2], S), 0) ∧ x1.mat = 4 ∧ x1.bal = 5 ∧ x1.ceased = false ∧ x2.ceased = true ∧ x2.hgt = 9 ∧ S.total = 4 ∧ S.steps.length ≤ 1 ∧ x1.Sized ∧ x2.Sized := by
  have hL : fillL [9, 9] 2 = [sideN 9, sideN 9] := rfl
  obtain ⟨g1, g2, g3, g4, g5, g6, g7⟩ := goes_start (m := 9) (by decide) (by decide)
  have hmpl : mp.keys.length ≤ 1000000 := by rw [mp_len]; decide
  have ht : takeC (fillL [9, 9] 2) (make14 p0) 8 finH = ((fillL [9, 9] 2).set 0 (waitX (sideN 9) (make14 p0)), 0) :=
    take_plan (x := sideN 9) p0_ok (by rw [hL]; decide) rfl g1 (by decide) (.inl g5) (by rw [p0_sum, g2]; decide) (by rw [p0_sum]; decide)
  have hc0 : (make14 p0).outs.length = 1 := rfl
  obtain ⟨y, hy⟩ : ∃ y, waitX (sideN 9) (make14 p0) = y := ⟨_, rfl⟩
  have y1 : Goes y := by rw [← hy]; exact ⟨g1.par, g1.made, g1.ceased⟩
  have y2 : y.pend = true := by rw [← hy]; rfl
  have y3 : y.cert = make14 p0 := by rw [← hy]; rfl
  have y4 : y.bal = 9 := by rw [← hy]; exact g2
  have y5 : y.mat = 0 := by rw [← hy]; exact g3
  have y6 : y.used = [] := by rw [← hy]; exact g7
  have h9 : (Int64.ofNat 9).toInt = ((9 : Nat) : Int) := toInt_ofNat (by decide)
  have d1 := due_mp y1 (h := 9) (by decide)
  have d2 := due_mp g1 (h := 9) (by decide)
  have hcp : CanPay y := ⟨by rw [y3]; exact plan_amt p0_ok, by rw [y3, hc0]; decide, by rw [y3, p0_sum, y4]; decide⟩
  obtain ⟨S, hg, hS⟩ := pay_plain (i := ((0 : Nat) : Int)) (h := Int64.ofNat 9) (S := USet.empty) hcp (Int.le_refl 0) (by rw [y3, p0_sum]; decide) (fun _ _ => rfl)
  have hv := pay_vals hcp (by rw [y4]; decide) (by rw [y5]; decide)
  have e1 : endOne (Int64.ofNat 9) 0 [y, sideN 9] USet.empty y = (([payX y, sideN 9], S), 0) :=
    endOne_pay (by rw [h9]; exact d1.1) y2 (by rw [h9, d1.2 rfl, y3]; rfl) hg
  have e2 : endOne (Int64.ofNat 9) 1 [payX y, sideN 9] S (sideN 9) = (([payX y, ceaseX (sideN 9) (Int64.ofNat 9).toInt], S), 0) :=
    endOne_cease (by rw [h9]; exact d2.1) (.inl g5)
  refine ⟨payX y, ceaseX (sideN 9) (Int64.ofNat 9).toInt, S, ?_, ?_, ?_, ?_, ?_, rfl, h9, ?_, ?_, ?_, ?_⟩
  · rw [ht, hL, hy]; rfl
  · rw [hy]
    have n1 : endN (Int64.ofNat 9) [y, sideN 9] USet.empty 1 = (([payX y, sideN 9], S), 0) := (endN_step rfl).trans e1
    exact (endN_step n1).trans e2
  · rw [hv]; show y.mat + _ = 4; rw [y5, y3, p0_sum]; rfl
  · rw [hv]; show y.bal - _ = 5; rw [y4, y3, p0_sum]; rfl
  · rw [hv]; exact y1.ceased
  · rw [hS.total, y3, p0_sum]; rfl
  · rw [hS.steps, y3, hc0]; exact Nat.le_refl _
  · rw [hv]
    exact ⟨by show y.par.keys.length ≤ _; rw [y1.par]; exact hmpl, Nat.zero_le _, Nat.zero_le _, by show y.used.length ≤ _; rw [y6]; exact Nat.zero_le _⟩
  · exact ⟨by show (sideN 9).par.keys.length ≤ _; rw [g1.par]; exact hmpl, by show (sideN 9).cert.outs.length ≤ _; rw [g6]; exact Nat.zero_le _, by show (sideN 9).cert.sigs.length ≤ _; rw [g6]; exact Nat.zero_le _, by show (sideN 9).used.length ≤ _; rw [g7]; exact Nat.zero_le _⟩
end Go.Proofs.YtnpkdoggfnlapaaGreatDoor
