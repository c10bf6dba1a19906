/- Parts Th Ti Lc Wf Wg Yb Yc Yd Yn Yj. -/
import Derived.Test.YtnpkdoggfnlapaaGreatDoorG18
import Derived.Test.YtnpkdoggfnlapaaGreatDoorG17
set_option linter.unusedSimpArgs false
set_option linter.unusedVariables false
namespace Go.Proofs.YtnpkdoggfnlapaaGreatDoor
set_option maxRecDepth 100000
open Go.Sx
theorem wend_can (ty : TypeId) (b : List UInt8) (hb : b.length ≤ 1000000) : Does Tryz.prog 190 [(.abs (wrP ty ⟨b, 0⟩), .abs (wrP ty ⟨b, 0⟩))] [] [] (.tup [.one (.slc 0 1 0 b.length), .one (.raw (.int .i64 0))]) (some (.vec 5 1 b.length (rowB b))) := by
  refine Does.of Tryz.T_ok Tryz.func190 rfl _ _ _ _ _ rfl rfl rfl 18 (fun C hC => ?_)
  (replace hC : C.n0 = 1 := hC; change Tri _ _ _ ⟨_, _, 1⟩ _)
  refine WrM.opens ty ⟨b, 0⟩ 0 rfl (Tri.of Tryz.mixed Tryz.T_ok ?_)
  (refine xB ?_)
  (refine wFd rfl ?_; refine xG ?_)
  (apply wP; exact (call_op rfl (entersB_of Tryz.func208 (by kernel_rfl)) rfl ((clone_can b (Nat.le_trans hb (by decide))).at [2] ⟨lend_vec0 rfl rfl, trivial⟩ trivial)); refine xZ ?_)
  exact wD (Ends.does (.inr rfl) (WrM.shuts ty ⟨b, 0⟩ 0 rfl rfl rfl rfl rfl (Nat.le_refl _) (fun _ _ => rfl)) rfl rfl (Nat.le_of_ble_eq_true rfl) rfl)
abbrev twr : TypeId := 260
theorem flatten_flatMap_le {E : Type} {f : E → List (List UInt8)} {k : Nat} (h : ∀ x, (f x).flatten.length ≤ k) : ∀ l : List E, (l.flatMap f).flatten.length ≤ k * l.length
  | [] => by simp
  | x :: l => by
    have := flatten_flatMap_le h l
    have := h x
    simp only [List.flatMap_cons, List.flatten_append, List.length_append, List.length_cons, Nat.mul_add]
    omega
theorem hashesL_flat (p : Nat → H8) : ∀ n, (hashesL p n).flatten.length = 8 * n
  | 0 => rfl
  | n + 1 => by rw [hashesL_succ, List.flatten_append, List.length_append, hashesL_flat p n]; simp [H8.l_len]; omega
theorem sig_flat (s : SigM) : s.parts.flatten.length = 281 := by
  simp only [SigM.parts, List.flatten_cons, List.flatten_append, List.length_append, hashesL_flat, numL_length]
end Go.Proofs.YtnpkdoggfnlapaaGreatDoor
namespace Go.Proofs.YtnpkdoggfnlapaaGreatDoor
set_option maxRecDepth 100000
open Go.Sx
theorem part_here {M : Mem} {rd : List Nat} {q n i sz cp k : Nat} {ln : Nat → Nat} {g : Nat → Nat → List Value} {ad : Nat → Option Addr} {cell : List Value} {f : Nat → List Value} (hm : M.get q = some (.ext (PartsAt sz n ln g ad))) (hrd : nmem q rd = true) (hi : i < n) (hc : cell = [.slice (ad i) (ln i) cp]) (hk : ln i = k) (hf : g i = f) : PartIn M rd sz cell k f :=
  ⟨q, n, ln, g, ad, i, cp, hm, hrd, hi, hc, hk, hf⟩
theorem parts_cons {M : Mem} {rd : List Nat} {q1 q2 cp0 n : Nat} {ad0 : Option Addr} {ad : Nat → Option Addr} {cp : Nat → Nat} {e : List UInt8} {bss : List (List UInt8)} {F : Nat → List Value}
    (h1 : M.get q1 = some (.ext (PartsAt 1 1 (fun _ => e.length) (fun _ => rowB e) (fun _ => ad0)))) (r1 : nmem q1 rd = true) (h2 : M.get q2 = some (.ext (PartsAt 1 bss.length (fun i => (bss.getD i []).length) (fun i => rowB (bss.getD i [])) ad))) (r2 : nmem q2 rd = true)
    (hF : F = joinF (cutF [.slice ad0 e.length cp0] 1) 1 (fun i => [.slice (ad (0 + i)) ((bss.getD (0 + i) []).length) (cp (0 + i))])) (hn : n = bss.length) : ∀ i, i < n + 1 → PartIn M rd 1 (F i) (((e :: bss).getD i []).length) (rowB ((e :: bss).getD i [])) := by
  subst hF hn
  intro i hi
  cases i with
  | zero => exact part_here (i := 0) h1 r1 (by decide) rfl rfl rfl
  | succ i =>
    refine part_here (i := i) (cp := cp i) h2 r2 (by omega) ?_ rfl rfl
    simp only [joinF, nblt, show ¬ i + 1 < 1 by omega, decide_false, cond_false, Nat.add_sub_cancel, Nat.zero_add]
end Go.Proofs.YtnpkdoggfnlapaaGreatDoor
namespace Go.Proofs.YtnpkdoggfnlapaaGreatDoor
set_option maxRecDepth 100000
open Go.Sx
theorem puts_cons (W : WrM) (c : List UInt8) (cs : List (List UInt8)) : W.puts (c :: cs) = (W.put c).puts cs := rfl
def claimP (c : ClaimM) : List (List UInt8) := numL c.side 1 :: numL c.acct 2 :: c.st.owner.l :: numL c.st.amt 7 :: numL c.st.nonce 1 :: hashesL c.proof 16
theorem claimOK_iff {c : ClaimM} : claimOK c = true ↔ (0 ≤ c.side ∧ c.side ≤ 7) ∧ (0 ≤ c.acct ∧ c.acct ≤ 65535) ∧ zeroB c.st.owner = false ∧ (1 ≤ c.st.amt ∧ c.st.amt ≤ 1125899906842624) ∧ (0 ≤ c.st.nonce ∧ c.st.nonce ≤ 255) := by
  simp only [claimOK, acctB, moneyB, withinB, Bool.and_eq_true, decide_eq_true_eq, Bool.not_eq_true']
  constructor
  · rintro ⟨⟨h1, h2⟩, h3, h4, h5⟩; exact ⟨h1, h2, h3, h4, h5⟩
  · rintro ⟨h1, h2, h3, h4, h5⟩; exact ⟨⟨h1, h2⟩, h3, h4, h5⟩
def SgdM.parts (s : SgdM) : List (List UInt8) := numL s.key 1 :: s.sig.parts
def certP (c : CertM) : List (List UInt8) := numL c.side 1 :: numL c.ep 4 :: numL c.qual 4 :: c.fin.l :: c.root.l :: (outsParts c.outs ++ (numL (c.sigs.length : Int) 1 :: c.sigs.flatMap SgdM.parts))
def certW1 (W : WrM) (c : CertM) : WrM := (((((W.put (numL c.side 1)).put (numL c.ep 4)).put (numL c.qual 4)).put c.fin.l).put c.root.l).puts (outsParts c.outs)
theorem certW_eq (W : WrM) (c : CertM) : W.puts (certP c) = (certW1 W c).puts (numL (c.sigs.length : Int) 1 :: c.sigs.flatMap SgdM.parts) := by
  show (((((W.put (numL c.side 1)).put (numL c.ep 4)).put (numL c.qual 4)).put c.fin.l).put c.root.l).puts (outsParts c.outs ++ _) = _
  rw [puts_append]; rfl
theorem certOK_iff {c : CertM} (h : certOK c = true) : c.sigs.all sgdOK = true ∧ withinB c.side 0 7 = true ∧ withinB c.ep 0 400 = true ∧ withinB c.qual 0 2147483647 = true ∧ outsOK c.outs = true ∧ (1 ≤ c.sigs.length ∧ c.sigs.length ≤ 5) := by
  simp only [certOK, certN, Bool.and_eq_true] at h
  obtain ⟨h1, ⟨h2, h3, h4⟩, h5, h6⟩ := h
  rw [within_iff] at h6
  exact ⟨h1, h2, h3, h4, h5, by omega⟩
set_option maxHeartbeats 2000000 in
theorem wcert_can (ty : TypeId) (W : WrM) (c : CertM) (hc : certOK c = true) (hW : W.b.length ≤ 131072) : Acts Tryz.prog 188 (.abs (wrP ty W)) (.abs (wrP ty (W.puts (certP c)))) [.box c.ac] [] (.tup []) := by
  obtain ⟨f0, f1, f2, f3, f4, f5⟩ := certOK_iff hc
  have p1 := put_len (b := numL c.side 1) hW
  have p2 := put_len (b := numL c.ep 4) p1
  have p3 := put_len (b := numL c.qual 4) p2
  have p4 := put_len (b := c.fin.l) p3
  have p5 := put_len (b := c.root.l) p4
  have p6 : (certW1 W c).b.length ≤ 131072 := puts_len (cs := outsParts c.outs) p5
  refine Acts.of Tryz.T_ok Tryz.func188 rfl _ _ _ _ _ rfl rfl rfl (fun C hC => ?_)
  (replace hC : C.n0 = 3 := hC; change Tri _ _ _ ⟨_, _, 3⟩ _)
  rw [certW_eq]
  (refine Tri.cut 9 Tryz.mixed Tryz.T_ok ?_; refine xZ ?_)
  (apply wP; exact (call_op rfl (entersB_of Tryz.func183 (by kernel_rfl)) rfl ((wnum_can ty W c.side 1 (fits_within f1 (by decide) (by decide)) (by omega)).at [] rfl rfl rfl ⟨lend_plain rfl, lend_plain rfl, trivial⟩ trivial)); refine xZ ?_)
  (apply wP; exact (call_op rfl (entersB_of Tryz.func183 (by kernel_rfl)) rfl ((wnum_can ty (W.put (numL c.side 1)) c.ep 4 (fits_within f2 (by decide) (by decide)) (by omega)).at [] rfl rfl rfl ⟨lend_plain rfl, lend_plain rfl, trivial⟩ trivial)); refine xZ ?_)
  (apply wP; exact (call_op rfl (entersB_of Tryz.func183 (by kernel_rfl)) rfl ((wnum_can ty ((W.put (numL c.side 1)).put (numL c.ep 4)) c.qual 4 (fits_within f3 (by decide) (by decide)) (by omega)).at [] rfl rfl rfl ⟨lend_plain rfl, lend_plain rfl, trivial⟩ trivial)); refine xZ ?_)
  (apply wP; exact (call_op rfl (entersB_of Tryz.func213 (by kernel_rfl)) rfl ((whash_can ty (((W.put (numL c.side 1)).put (numL c.ep 4)).put (numL c.qual 4)) c.fin (by omega)).at [] rfl rfl rfl ⟨lend_plain rfl, trivial⟩ trivial)); refine xZ ?_)
  (apply wP; exact (call_op rfl (entersB_of Tryz.func213 (by kernel_rfl)) rfl ((whash_can ty ((((W.put (numL c.side 1)).put (numL c.ep 4)).put (numL c.qual 4)).put c.fin.l) c.root (by omega)).at [] rfl rfl rfl ⟨lend_plain rfl, trivial⟩ trivial)); refine xZ ?_)
  (apply wP; exact (call_op rfl (entersB_of Tryz.func184 (by kernel_rfl)) rfl ((wouts_can ty (((((W.put (numL c.side 1)).put (numL c.ep 4)).put (numL c.qual 4)).put c.fin.l).put c.root.l) c.outs f4 p5).at [1] rfl rfl rfl ⟨lend_ro0 rfl rfl, trivial⟩ trivial)); refine xZ ?_)
  rw [show (((((W.put (numL c.side 1)).put (numL c.ep 4)).put (numL c.qual 4)).put c.fin.l).put c.root.l).puts (outsParts c.outs) = certW1 W c from rfl]
  generalize certW1 W c = Y at p6 ⊢
  (apply wP; exact (call_op rfl (entersB_of Tryz.func183 (by kernel_rfl)) rfl ((wnum_can ty Y (c.sigs.length : Int) 1 (fits_len (by omega)) (by omega)).at [] rfl rfl rfl ⟨lend_plain rfl, lend_plain rfl, trivial⟩ trivial)); refine xZ ?_)
  refine wD <| cutG <| Tri.block ?_
  refine Tri.loop (α := { i : Nat // i ≤ c.sigs.length }) (fun i => ⟨[some (XV.sv (.ptr 0 0 0 0))] ++ List.replicate 47 none ++ [some (XV.sv (.slc 2 282 0 c.sigs.length)), some (XV.int .i64 c.sigs.length), some (XV.int .i64 i.1)] ++ List.replicate 14 none, [(0, .abs (wrP ty (Y.puts (numL (c.sigs.length : Int) 1 :: (c.sigs.take i.1).flatMap SgdM.parts)))), (1, .ro 9 c.outs.length (outsF c.outs)), (2, .ro 282 c.sigs.length (sgdsF c.sigs))], 3⟩) (fun i => c.sigs.length - i.1) ⟨0, Nat.zero_le _⟩ ?_ ?_
  · ((try dsimp only); refine Ent.renC [0, 1, 2] hC ?_ ?_ <;> repeat' (first | exact trivial | exact rfl | exact ⟨_, rfl, rfl, rfl, Nat.le_refl _, fun _ _ => rfl⟩ | exact ⟨_, rfl, rfl, rfl, fun _ _ => rfl⟩ | exact ⟨_, rfl, rfl, rfl⟩ | exact ⟨_, rfl, rfl⟩ | refine ⟨_, rfl, rfl, rfl, by omega, fun k hk => ?_⟩ | refine ⟨?_, ?_⟩ | fail))
  rintro ⟨i, hi⟩
  dsimp only
  (refine Tri.cut 2 Tryz.mixed Tryz.T_ok ?_; refine xZ ?_)
  refine wC (fun h1 => ?_) (fun h1 => ?_)
  · (refine xG ?_)
    have h1' : i < c.sigs.length := xW
    have hw : IntKind.i64.wrap ((i : Int) + 1) = ((i + 1 : Nat) : Int) := xW
    have ho := all_at f0 h1'
    rw [sgdOK, Bool.and_eq_true] at ho
    obtain ⟨V, hV, hp⟩ : ∃ V, Y.puts (numL (c.sigs.length : Int) 1 :: (c.sigs.take i).flatMap SgdM.parts) = V ∧ V.b.length ≤ 131072 := ⟨_, rfl, puts_len p6⟩
    have hp1 := put_len (b := numL (c.sigs.getD i default).key 1) hp
    rw [hV]
    refine wD <| cutG <| Tri.seq <| Tri.block <| Tri.of Tryz.mixed Tryz.T_ok ?_
    (refine xB ?_)
    (repeat (refine wN ?_ ?_; exact xW; refine xG ?_))
    simp only [Nat.zero_add, Int.toNat_natCast]
    (apply wP; exact (call_op rfl (entersB_of Tryz.func183 (by kernel_rfl)) rfl ((wnum_can ty V (c.sigs.getD i default).key 1 (fits_within ho.1 (by decide) (by decide)) (by omega)).at [] rfl rfl rfl ⟨lend_plain rfl, lend_plain rfl, trivial⟩ trivial)); refine xZ ?_)
    (apply wP; exact (call_op rfl (entersB_of Tryz.func214 (by kernel_rfl)) rfl ((sig_can ty (V.put (numL (c.sigs.getD i default).key 1)) (c.sigs.getD i default).sig (fits_within ho.2 (by decide) (by decide)) hp1).at [] rfl rfl rfl ⟨lend_plain rfl, trivial⟩ trivial)); refine xZ ?_)
    refine wD <| blockN <| cutG <| Tri.of Tryz.mixed Tryz.T_ok ?_
    (refine xB ?_)
    refine wD <| loopN ⟨⟨i + 1, h1'⟩, by dsimp only; omega, ?_⟩
    rw [hw]
    dsimp only
    rw [flatMap_take_succ _ h1', ← List.cons_append, puts_append, hV]
    ((try dsimp only); refine Ent.renC [0, 1, 2] hC ?_ ?_ <;> repeat' (first | exact trivial | exact rfl | exact ⟨_, rfl, rfl, rfl, Nat.le_refl _, fun _ _ => rfl⟩ | exact ⟨_, rfl, rfl, rfl, fun _ _ => rfl⟩ | exact ⟨_, rfl, rfl, rfl⟩ | exact ⟨_, rfl, rfl⟩ | refine ⟨_, rfl, rfl, rfl, by omega, fun k hk => ?_⟩ | refine ⟨?_, ?_⟩ | fail))
  · (refine xG ?_)
    have h1' : i = c.sigs.length := xW
    subst h1'
    rw [List.take_length]
    exact wD <| cutE <| loopX <| blockX (Ends.shutN (.inl rfl) (Ent.refl _) rfl rfl rfl)
abbrev EncOK (t : TxM) (b : List UInt8) : Prop := Makes Tryz.prog 153 [.box t.ac] [] (.tup [.one (.slc 0 1 0 b.length), .one (.raw (.int .i64 0))]) (.vec 5 1 b.length (rowB b))
abbrev EncBad (t : TxM) : Prop := Reads Tryz.prog 153 [.box t.ac] [] (.tup [.one (.raw (.slice none 0 0)), .one (.raw (.int .i64 1))])
abbrev MayIs (t : TxM) (b : Bool) : Prop := Reads Tryz.prog 82 [.box t.ac] [] (XV.bool b)
theorem enc_bad {t : TxM} (hmay : MayIs t false) : EncBad t := by
  refine Reads.of Tryz.T_ok Tryz.func153 rfl _ _ _ rfl rfl (fun C hC => ?_)
  (replace hC : C.n0 = 6 := hC; change Tri _ _ _ ⟨_, _, 6⟩ _)
  refine Tri.of Tryz.mixed Tryz.T_ok ?_
  (refine xB ?_)
  (apply wP; exact (call_op rfl (entersB_of Tryz.func82 (by kernel_rfl)) rfl (hmay.at [0, 1, 2, 3, 4, 5] ⟨lend_tx (t := t) (lend_ro0 rfl rfl) (lend_ro0 rfl rfl) (lend_ro0 rfl rfl) (lend_ro0 rfl rfl) (lend_ro0 rfl rfl) (lend_ro0 rfl rfl), trivial⟩ trivial)); refine xZ ?_)
  exact wD (Ends.plain (.inr rfl) rfl rfl)
theorem outs_flat {l : List OutM} (h : outsOK l = true) : (outsParts l).flatten.length ≤ 241 := by
  rw [outsOK, Bool.and_eq_true, decide_eq_true_eq] at h
  have e2 := flatten_flatMap_le (f := OutM.parts) (k := 15) (fun x => by simp only [OutM.parts, List.flatten_cons, List.flatten_nil, List.length_append, List.length_nil, numL_length, H8.l_len]; omega) l
  simp only [outsParts, List.flatten_cons, List.length_append, numL_length]
  omega
def certEnc (t : TxM) : List UInt8 := (numL 4 1 :: certP t.cert).flatten
theorem certEnc_len {t : TxM} (h : certOK t.cert = true) : (certEnc t).length ≤ 3000 := by
  obtain ⟨_, _, _, _, h4, _, h5⟩ := certOK_iff h
  have := outs_flat h4
  have e1 := flatten_flatMap_le (f := SgdM.parts) (k := 282) (fun x => by simp only [SgdM.parts, List.flatten_cons, List.length_append, numL_length, sig_flat]; omega) t.cert.sigs
  simp only [certEnc, certP, List.flatten_cons, List.flatten_append, List.length_append, numL_length, H8.l_len]
  omega
set_option maxHeartbeats 4000000 in
theorem enc4 {t : TxM} (hk : t.kind = 4) (hb : certOK t.cert = true) (hmay : MayIs t true) : EncOK t (certEnc t) := by
  have hl := certEnc_len hb
  have q1 : ((⟨[], 0⟩ : WrM).put (numL t.kind 1)).b.length ≤ 131072 := put_len (by simp)
  have hpp : ((⟨[], 0⟩ : WrM).put (numL t.kind 1)).puts (certP t.cert) = ⟨certEnc t, 0⟩ := by
    rw [hk, ← puts_cons, puts_ok rfl (by show 0 + (certEnc t).length ≤ _; omega), List.nil_append]; rfl
  refine Makes.of Tryz.T_ok Tryz.func153 rfl _ _ _ _ rfl rfl rfl rfl 39 (fun C hC => ?_)
  (replace hC : C.n0 = 6 := hC; change Tri _ _ _ ⟨_, _, 6⟩ _)
  (refine Tri.cut 3 Tryz.mixed Tryz.T_ok ?_; refine xZ ?_)
  (apply wP; exact (call_op rfl (entersB_of Tryz.func82 (by kernel_rfl)) rfl (hmay.at [0, 1, 2, 3, 4, 5] ⟨lend_tx (t := t) (lend_ro0 rfl rfl) (lend_ro0 rfl rfl) (lend_ro0 rfl rfl) (lend_ro0 rfl rfl) (lend_ro0 rfl rfl) (lend_ro0 rfl rfl), trivial⟩ trivial)); refine xZ ?_)
  refine wD <| cutG <| Tri.ent (Ent.nilc (c := 13) (j := 0) rfl rfl 5 1) <| Tri.ent (WrM.shuts (i1 := 15) (n := 0) (f := fun _ => []) twr ⟨[], 0⟩ 13 rfl rfl rfl rfl rfl (Nat.zero_le _) (fun i hi => absurd hi (Nat.not_lt_zero _))) <| Tri.of Tryz.mixed Tryz.T_ok ?_
  (refine xB ?_)
  (apply wP; exact (call_op rfl (entersB_of Tryz.func183 (by kernel_rfl)) rfl ((wnum_can twr ⟨[], 0⟩ t.kind 1 ⟨by decide, by decide, by omega, by omega⟩ (by decide)).at [] rfl rfl rfl ⟨lend_plain rfl, lend_plain rfl, trivial⟩ trivial)); refine xZ ?_)
  (refine wFd ?_ ?_; (first | refine decide_eq_false ?_ | rw [beq_eq_false_iff_ne] | rw [bne_eq_false_iff_eq]); exact xW; refine xG ?_)
  (refine wFd ?_ ?_; (first | refine decide_eq_false ?_ | rw [beq_eq_false_iff_ne] | rw [bne_eq_false_iff_eq]); exact xW; refine xG ?_)
  (refine wFd ?_ ?_; (first | refine decide_eq_false ?_ | rw [beq_eq_false_iff_ne] | rw [bne_eq_false_iff_eq]); exact xW; refine xG ?_)
  (refine wTd ?_ ?_; (first | refine decide_eq_true ?_ | rw [beq_iff_eq] | rw [bne_iff_ne]); exact xW; refine xG ?_)
  (apply wP; exact (call_op rfl (entersB_of Tryz.func188 (by kernel_rfl)) rfl ((wcert_can twr ((⟨[], 0⟩ : WrM).put (numL t.kind 1)) t.cert hb q1).at [4, 5] rfl rfl rfl ⟨lend_cert (lend_ro0 rfl rfl) (lend_ro0 rfl rfl), trivial⟩ trivial)); refine xZ ?_)
  rw [hpp]
  (apply wP; exact (call_op rfl (entersB_of Tryz.func190 (by kernel_rfl)) rfl ((wend_can twr (certEnc t) (by omega)).at1 [] rfl rfl rfl trivial trivial)); refine xZ ?_)
  exact wD (Ends.made (.inr rfl) (Ent.refl _) rfl (Nat.le_of_ble_eq_true rfl) rfl)
set_option maxHeartbeats 2000000 in
theorem digest_of (p : UInt8) {t : TxM} {b : List UInt8} (bss : List (List UInt8)) (he : EncOK t b) (hb : bss.length ≤ 1000) (hsh : Short (encAll p (b :: bss))) : Reads Tryz.prog 98 [.plain (.one (.raw (u8 p))), .box t.ac, partsA bss] [stepsP] (.tup [(dig p (b :: bss)).x, .one (.raw (.bool true))]) := by
  refine Reads.of Tryz.T_ok Tryz.func98 rfl _ _ _ rfl rfl (fun C hC => ?_)
  (replace hC : C.n0 = 9 := hC; change Tri _ _ _ ⟨_, _, 9⟩ _)
  (refine Tri.cut 2 Tryz.mixed Tryz.T_ok ?_; refine xZ ?_)
  (apply wP; exact (call_op rfl (entersB_of Tryz.func153 (by kernel_rfl)) rfl (he.at [1, 2, 3, 4, 5, 6] ⟨lend_tx (t := t) (lend_ro0 rfl rfl) (lend_ro0 rfl rfl) (lend_ro0 rfl rfl) (lend_ro0 rfl rfl) (lend_ro0 rfl rfl) (lend_ro0 rfl rfl), trivial⟩ trivial)); refine xZ ?_)
  refine wD <| cutG <| Tri.openRows (c := 7) rfl fun ad cp => Tri.freeze 8 (c := 13) rfl rfl (Nat.le_refl _) fun ad0 cp0 => Tri.of Tryz.mixed Tryz.T_ok ?_
  (refine xB ?_)
  (refine wP _ _ (append_op Tryz.T_ok rfl rfl rfl rfl rfl [25, 7] (old_vec rfl rfl (Nat.le_refl _) rfl) (new_ro (lo := 0) rfl rfl (Nat.le_of_eq (Nat.zero_add _)) rfl) rfl (fun _ _ => rfl) (by simp only [maxLen]; omega) (by dsimp only; omega)) ?_; refine xZ ?_)
  rw [Nat.add_comm 1 bss.length]
  (apply wP; exact (call_op rfl (entersB_of Tryz.func146 (by kernel_rfl)) rfl ((of_can p (b :: bss) hsh).at [27, 19, 20, 8] ⟨lend_plain rfl, lend_rows_vec rfl rfl (parts_cons (q1 := 20) (q2 := 19) rfl rfl rfl rfl rfl rfl), trivial⟩ ⟨lend_ext (c := 8) rfl rfl, trivial⟩)); refine xZ ?_)
  exact wD (Ends.plain (.inr rfl) rfl rfl)
theorem digest_no (p : UInt8) {t : TxM} (bss : List (List UInt8)) (he : EncBad t) : Reads Tryz.prog 98 [.plain (.one (.raw (u8 p))), .box t.ac, partsA bss] [stepsP] (.tup [zeroH.x, .one (.raw (.bool false))]) := by
  refine Reads.of Tryz.T_ok Tryz.func98 rfl _ _ _ rfl rfl (fun C hC => ?_)
  (replace hC : C.n0 = 9 := hC; change Tri _ _ _ ⟨_, _, 9⟩ _)
  refine Tri.of Tryz.mixed Tryz.T_ok ?_
  (refine xB ?_)
  (apply wP; exact (call_op rfl (entersB_of Tryz.func153 (by kernel_rfl)) rfl (he.at [1, 2, 3, 4, 5, 6] ⟨lend_tx (t := t) (lend_ro0 rfl rfl) (lend_ro0 rfl rfl) (lend_ro0 rfl rfl) (lend_ro0 rfl rfl) (lend_ro0 rfl rfl) (lend_ro0 rfl rfl), trivial⟩ trivial)); refine xZ ?_)
  exact wD (Ends.plain (.inr rfl) rfl rfl)
end Go.Proofs.YtnpkdoggfnlapaaGreatDoor
namespace Go.Proofs.YtnpkdoggfnlapaaGreatDoor
set_option maxRecDepth 100000
open Go.Sx
def KND (l : List (Pt × Coin)) : Prop := (l.map (·.1)).Nodup
theorem mget_put_ne {l : List (Pt × Coin)} {k q : Pt} {v : Coin} (h : q ≠ k) : mget (mput l k v) q = mget l q := by
  induction l with
  | nil => simp [mput, mget, Ne.symm h]
  | cons x r ih =>
    simp only [mput]
    by_cases e : x.1 = k
    · rw [if_pos e]
      simp only [mget]
      rw [if_neg (Ne.symm h), if_neg (fun e2 => h (e2.symm.trans e))]
    · rw [if_neg e]
      simp only [mget, ih]
theorem mget_put_self {l : List (Pt × Coin)} {k : Pt} {v : Coin} : mget (mput l k v) k = some v := by
  induction l with
  | nil => simp [mput, mget]
  | cons x r ih =>
    simp only [mput]
    by_cases e : x.1 = k
    · rw [if_pos e]; simp [mget]
    · rw [if_neg e]; simp only [mget, if_neg e, ih]
theorem absent_of {l : List (Pt × Coin)} {k : Pt} (h : mget l k = none) : k ∉ l.map (·.1) := by
  induction l with
  | nil => simp
  | cons x r ih =>
    simp only [mget] at h
    by_cases e : x.1 = k
    · rw [if_pos e] at h; cases h
    · rw [if_neg e] at h
      simp only [List.map_cons, List.mem_cons, not_or]
      exact ⟨Ne.symm e, ih h⟩
theorem knd_put {l : List (Pt × Coin)} {k : Pt} {v : Coin} (hn : KND l) (h : mget l k = none) : KND (mput l k v) ∧ (mput l k v).length = l.length + 1 := by
  have ha := absent_of h
  have e : mput l k v = l ++ [(k, v)] := mput_none fun x hx e => ha (e ▸ List.mem_map_of_mem hx)
  rw [e]
  refine ⟨?_, by simp⟩
  simp only [KND, List.map_append, List.map_cons, List.map_nil]
  rw [List.nodup_append]
  refine ⟨hn, by simp, fun a h1 b h2 => ?_⟩
  simp only [List.mem_singleton] at h2
  subst h2
  rintro rfl
  exact ha h1
end Go.Proofs.YtnpkdoggfnlapaaGreatDoor
namespace Go.Proofs.YtnpkdoggfnlapaaGreatDoor
set_option maxRecDepth 100000
open Go.Sx
end Go.Proofs.YtnpkdoggfnlapaaGreatDoor
namespace Go.Proofs.YtnpkdoggfnlapaaGreatDoor
set_option maxRecDepth 100000
open Go.Sx
def overH (a b : H8) : H8 := if (zeroB a && zeroB b) = true then zeroH else dig 110 [a.l, b.l]
theorem zeroB_zero : zeroB zeroH = true := by decide
theorem overH_zero : overH zeroH zeroH = zeroH := by rw [overH, if_pos (by rw [zeroB_zero]; rfl)]
abbrev LvM := List (Nat × H8)
def putGo (i : Nat) (h : H8) : LvM → Bool → LvM
  | [], done => if done = true then [] else [(i, h)]
  | (a, x) :: r, done => (if !done && decide (i ≤ a) then [(i, h)] else []) ++ ((if a = i then [] else [(a, x)]) ++ putGo i h r (done || decide (i ≤ a)))
def lvPut (l : LvM) (i : Nat) (h : H8) : LvM := putGo i h l (zeroB h)
def lvGet : LvM → Nat → H8
  | [], _ => zeroH
  | (a, x) :: r, i => if a = i then x else lvGet r i
theorem lvGet_append (a b : LvM) (j : Nat) (h : ∀ x ∈ a, x.1 ≠ j) : lvGet (a ++ b) j = lvGet b j := by
  induction a with
  | nil => rfl
  | cons x r ih =>
    obtain ⟨p, q⟩ := x
    have h1 : p ≠ j := h _ (List.mem_cons_self ..)
    rw [List.cons_append, lvGet, if_neg h1]
    exact ih fun x hx => h x (List.mem_cons_of_mem _ hx)
theorem putGo_other {i : Nat} {h : H8} {j : Nat} (hj : j ≠ i) : ∀ (l : LvM) (d : Bool), lvGet (putGo i h l d) j = lvGet l j
  | [], d => by
    cases d
    · show (if i = j then h else zeroH) = zeroH
      rw [if_neg (fun e => hj e.symm)]
    · rfl
  | (a, x) :: r, d => by
    have ih := putGo_other (h := h) hj r (d || decide (i ≤ a))
    rw [putGo, lvGet_append]
    · by_cases e : a = i
      · rw [if_pos e, List.nil_append, ih, lvGet, if_neg (by omega)]
      · rw [if_neg e]
        show (if a = j then x else lvGet (putGo i h r _) j) = _
        rw [ih]; rfl
    · intro y hy
      split at hy
      · simp only [List.mem_singleton] at hy; subst hy; exact fun e => hj e.symm
      · simp at hy
theorem putGo_done {i : Nat} {h : H8} : ∀ (l : LvM), lvGet (putGo i h l true) i = zeroH
  | [] => rfl
  | (a, x) :: r => by
    have ih := putGo_done (i := i) (h := h) r
    rw [putGo]
    simp only [Bool.not_true, Bool.false_and, Bool.true_or, Bool.false_eq_true, if_false, List.nil_append]
    by_cases e : a = i
    · rw [if_pos e, List.nil_append, ih]
    · rw [if_neg e]
      show (if a = i then x else lvGet (putGo i h r true) i) = _
      rw [if_neg e, ih]
theorem putGo_at {i : Nat} {h : H8} : ∀ (l : LvM), lvGet (putGo i h l false) i = h
  | [] => by
    show (if i = i then h else zeroH) = h
    rw [if_pos rfl]
  | (a, x) :: r => by
    have ih := putGo_at (i := i) (h := h) r
    rw [putGo]
    by_cases e : i ≤ a
    · rw [decide_eq_true e]
      show (if i = i then h else _) = h
      rw [if_pos rfl]
    · rw [decide_eq_false e]
      simp only [Bool.not_false, Bool.and_false, Bool.or_false, Bool.false_eq_true, if_false, List.nil_append]
      rw [if_neg (show ¬ a = i by omega)]
      show (if a = i then x else lvGet (putGo i h r false) i) = _
      rw [if_neg (show ¬ a = i by omega), ih]
theorem lvPut_get (l : LvM) (i : Nat) (h : H8) (j : Nat) : lvGet (lvPut l i h) j = if j = i then h else lvGet l j := by
  by_cases e : j = i
  · subst e
    rw [if_pos rfl, lvPut]
    cases hz : zeroB h
    · exact putGo_at l
    · rw [putGo_done]
      simp only [zeroB, decide_eq_true_eq] at hz
      exact hz.symm
  · rw [if_neg e, lvPut, putGo_other e]
def someIn (l : LvM) (f k : Nat) : Bool := l.any fun x => decide (f ≤ x.1) && decide (x.1 < f + 2 ^ k)
def nodeH (l : LvM) : Nat → Nat → H8
  | f, 0 => if someIn l f 0 = true then lvGet l f else zeroH
  | f, k + 1 => if someIn l f (k + 1) = true then overH (nodeH l f k) (nodeH l (f + 2 ^ k) k) else zeroH
def nodeG (g : Nat → H8) : Nat → Nat → H8
  | f, 0 => g f
  | f, k + 1 => overH (nodeG g f k) (nodeG g (f + 2 ^ k) k)
theorem lvGet_none {l : LvM} {j : Nat} (h : ∀ x ∈ l, x.1 ≠ j) : lvGet l j = zeroH := by
  have := lvGet_append l [] j h
  rwa [List.append_nil] at this
theorem nodeG_zero {g : Nat → H8} : ∀ (k f : Nat), (∀ j, f ≤ j → j < f + 2 ^ k → g j = zeroH) → nodeG g f k = zeroH
  | 0, f, h => h f (Nat.le_refl _) (by omega)
  | k + 1, f, h => by
    have e : 2 ^ (k + 1) = 2 ^ k + 2 ^ k := by rw [Nat.pow_succ]; omega
    rw [nodeG, nodeG_zero k f fun j h1 h2 => h j h1 (by omega), nodeG_zero k (f + 2 ^ k) fun j h1 h2 => h j (by omega) (by omega), overH_zero]
theorem nodeH_eq (l : LvM) : ∀ (k f : Nat), nodeH l f k = nodeG (lvGet l) f k := by
  have hn : ∀ k f, someIn l f k = false → nodeG (lvGet l) f k = zeroH := by
    intro k f h
    refine nodeG_zero k f fun j h1 h2 => lvGet_none fun x hx e => ?_
    rw [someIn, List.any_eq_false] at h
    have := h x hx
    simp only [Bool.and_eq_true, decide_eq_true_eq] at this
    omega
  intro k
  induction k with
  | zero =>
    intro f
    cases h : someIn l f 0
    · rw [nodeH, if_neg (by rw [h]; simp), hn 0 f h]
    · rw [nodeH, if_pos h]; rfl
  | succ k ih =>
    intro f
    cases h : someIn l f (k + 1)
    · rw [nodeH, if_neg (by rw [h]; simp), hn (k + 1) f h]
    · rw [nodeH, if_pos h, ih, ih]; rfl
def sibN (m : Nat) : Nat := if m % 2 = 1 then m - 1 else m + 1
def upS (leaf : H8) (i : Nat) (p : Nat → H8) : Nat → H8
  | 0 => leaf
  | k + 1 => if i / 2 ^ k % 2 = 1 then overH (p k) (upS leaf i p k) else overH (upS leaf i p k) (p k)
def provS (l : LvM) (i : Nat) (k : Nat) : H8 := nodeH l (sibN (i / 2 ^ k) * 2 ^ k) k
theorem upS_node (l : LvM) (i : Nat) : ∀ n, upS (lvGet l i) i (provS l i) n = nodeG (lvGet l) (i / 2 ^ n * 2 ^ n) n
  | 0 => by simp [upS, nodeG]
  | n + 1 => by
    have ih := upS_node l i n
    have e : 2 ^ (n + 1) = 2 * 2 ^ n := by rw [Nat.pow_succ]; omega
    have e1 : i / 2 ^ (n + 1) = i / 2 ^ n / 2 := by rw [Nat.pow_succ, ← Nat.div_div_eq_div_mul]
    rw [upS, ih, provS, nodeH_eq, nodeG, e1, e]
    obtain ⟨m, hm⟩ : ∃ m, i / 2 ^ n = m := ⟨_, rfl⟩
    obtain ⟨c, hc⟩ : ∃ c, 2 ^ n = c := ⟨_, rfl⟩
    rw [hm, hc]
    unfold sibN
    by_cases h : m % 2 = 1
    · rw [if_pos h, if_pos h]
      have e2 : m - 1 = m / 2 * 2 := by omega
      have e3 : m = m / 2 * 2 + 1 := by omega
      have e4 : (m - 1) * c = m / 2 * (2 * c) := by rw [e2, Nat.mul_assoc]
      have e5 : m * c = m / 2 * (2 * c) + c := by
        conv => lhs; rw [e3]
        rw [Nat.add_mul, Nat.mul_assoc, Nat.one_mul]
      rw [e4, e5]
    · rw [if_neg h, if_neg h]
      have e3 : m = m / 2 * 2 := by omega
      have e4 : m * c = m / 2 * (2 * c) := by
        conv => lhs; rw [e3]
        rw [Nat.mul_assoc]
      have e5 : (m + 1) * c = m / 2 * (2 * c) + c := by rw [Nat.add_mul, e4, Nat.one_mul]
      rw [e4, e5]
theorem upS_top (l : LvM) (i : Nat) (hi : i < 65536) : upS (lvGet l i) i (provS l i) 16 = nodeH l 0 16 := by
  rw [upS_node, nodeH_eq, show i / 2 ^ 16 = 0 from Nat.div_eq_of_lt hi, Nat.zero_mul]
end Go.Proofs.YtnpkdoggfnlapaaGreatDoor
namespace Go.Proofs.YtnpkdoggfnlapaaGreatDoor
set_option maxRecDepth 100000
open Go.Sx
def insU : List Int → Int → List Int
  | [], a => [a]
  | x :: r, a => if x < a then x :: insU r a else a :: x :: r
def posU : List Int → Int → Nat
  | [], _ => 0
  | x :: r, a => if x < a then posU r a + 1 else 0
abbrev Rising (l : List Int) : Prop := l.Pairwise (· < ·)
theorem posU_le : ∀ (l : List Int) (a : Int), posU l a ≤ l.length
  | [], _ => Nat.le_refl _
  | x :: r, a => by
    have := posU_le r a
    rw [posU]
    split
    · simp only [List.length_cons]; omega
    · exact Nat.zero_le _
theorem insU_eq : ∀ (l : List Int) (a : Int), insU l a = l.take (posU l a) ++ a :: l.drop (posU l a)
  | [], _ => rfl
  | x :: r, a => by
    rw [insU, posU]
    split
    · rw [insU_eq r a]; rfl
    · rfl
theorem insU_len (l : List Int) (a : Int) : (insU l a).length = l.length + 1 := by
  have := posU_le l a
  rw [insU_eq]
  simp only [List.length_append, List.length_take, List.length_cons, List.length_drop]
  omega
theorem mem_insU {l : List Int} {a b : Int} : b ∈ insU l a ↔ b = a ∨ b ∈ l := by
  induction l with
  | nil => simp [insU]
  | cons x r ih =>
    rw [insU]
    split
    · simp only [List.mem_cons, ih]
      constructor
      · rintro (h | h | h)
        · exact .inr (.inl h)
        · exact .inl h
        · exact .inr (.inr h)
      · rintro (h | h | h)
        · exact .inr (.inl h)
        · exact .inl h
        · exact .inr (.inr h)
    · simp only [List.mem_cons]
theorem rising_ins {l : List Int} {a : Int} (h : Rising l) (ha : a ∉ l) : Rising (insU l a) := by
  induction l with
  | nil => simp [insU]
  | cons x r ih =>
    have h1 := List.pairwise_cons.1 h
    simp only [List.mem_cons, not_or] at ha
    rw [insU]
    split
    · rename_i hx
      refine List.pairwise_cons.2 ⟨fun y hy => ?_, ih h1.2 ha.2⟩
      rcases mem_insU.1 hy with rfl | hy
      · exact hx
      · exact h1.1 y hy
    · rename_i hx
      have hxa : a < x := by omega
      refine List.pairwise_cons.2 ⟨fun y hy => ?_, h⟩
      rcases List.mem_cons.1 hy with rfl | hy
      · exact hxa
      · exact Int.lt_trans hxa (h1.1 y hy)
def leafA (i : Int) (a : AccM) : H8 := dig 97 [numL i 2, a.owner.l, numL a.amt 7, numL a.nonce 1]
def proofOK (root : H8) (c : ClaimM) : Bool := decide (upS (leafA c.acct c.st) c.acct.toNat c.proof 16 = root)
def checkX (x : SideM) (c : ClaimM) : Int := if x.ceased = false then 14 else if c.acct ∈ x.used then 13 else if proofOK x.root c = false then 12 else if x.bal < c.st.amt then 5 else 0
def checkE (L : List SideM) (c : ClaimM) : Int := if claimOK c = false then 4 else if (L.length : Int) ≤ c.side then 8 else checkX (L.getD c.side.toNat default) c
def claimPay (c : ClaimM) : OutM := ⟨c.st.owner, Int64.ofInt c.st.amt⟩
def takeX (x : SideM) (c : ClaimM) : SideM := { x with bal := IntKind.i64.wrap (x.bal - c.st.amt), clm := IntKind.i64.wrap (x.clm + c.st.amt), used := insU x.used c.acct }
def claimParts (c : ClaimM) : List (List UInt8) := numL 5 1 :: claimP c
def claimEnc (c : ClaimM) : List UInt8 := (claimParts c).flatten
def claimID (c : ClaimM) : H8 := dig 120 [claimEnc c]
def takeE (L : List SideM) (S : USet) (c : ClaimM) (h : Int64) : (List SideM × USet) × Int :=
  if checkE L c = 0 then
    if (outsGo (claimID c) h false S 0 [claimPay c]).2 = 0 then ((L.set c.side.toNat (takeX (L.getD c.side.toNat default) c), (outsGo (claimID c) h false S 0 [claimPay c]).1), 0)
    else ((L, (outsGo (claimID c) h false S 0 [claimPay c]).1), (outsGo (claimID c) h false S 0 [claimPay c]).2)
  else ((L, S), checkE L c)
theorem outs1 (id : H8) (h : Int64) (S : USet) (o : OutM) : outsGo id h false S 0 [o] = if S.has (ptAt id 0) = true then (S, 6) else if S.okB (ptAt id 0) ⟨o.to, o.amt, h, false⟩ = true then (S.add1 (ptAt id 0) ⟨o.to, o.amt, h, false⟩, 0) else (S, 5) := rfl
theorem takeE_cases (x : SideM) (S : USet) (c : ClaimM) (h : Int64) :
    (∃ e, e ≠ 0 ∧ takeE [x] S c h = (([x], S), e)) ∨
    (takeE [x] S c h = (([takeX x c], S.add1 (ptAt (claimID c) 0) ⟨c.st.owner, Int64.ofInt c.st.amt, h, false⟩), 0) ∧ claimOK c = true ∧ checkX x c = 0 ∧ S.has (ptAt (claimID c) 0) = false ∧ S.okB (ptAt (claimID c) 0) ⟨c.st.owner, Int64.ofInt c.st.amt, h, false⟩ = true) := by
  unfold takeE
  by_cases h1 : checkE [x] c = 0
  · rw [if_pos h1]
    have h1' := h1
    unfold checkE at h1'
    cases h2 : claimOK c with
    | false => rw [if_pos h2] at h1'; cases h1'
    | true =>
      rw [if_neg (by rw [h2]; simp)] at h1'
      by_cases h3 : (([x] : List SideM).length : Int) ≤ c.side
      · rw [if_pos h3] at h1'; cases h1'
      · rw [if_neg h3] at h1'
        have hs := (claimOK_iff.1 h2).1
        simp only [List.length_singleton] at h3
        have e0 : c.side.toNat = 0 := by omega
        rw [e0] at h1' ⊢
        have h1' : checkX x c = 0 := h1'
        cases h4 : S.has (ptAt (claimID c) 0) with
        | true =>
          have eo : outsGo (claimID c) h false S 0 [claimPay c] = (S, 6) := by rw [outs1, if_pos h4]
          rw [eo]
          exact .inl ⟨6, by decide, rfl⟩
        | false =>
          cases h5 : S.okB (ptAt (claimID c) 0) ⟨c.st.owner, Int64.ofInt c.st.amt, h, false⟩ with
          | false =>
            have e5 : S.okB (ptAt (claimID c) 0) ⟨(claimPay c).to, (claimPay c).amt, h, false⟩ = false := h5
            have eo : outsGo (claimID c) h false S 0 [claimPay c] = (S, 5) := by rw [outs1, if_neg (by rw [h4]; simp), if_neg (by rw [e5]; simp)]
            rw [eo]
            exact .inl ⟨5, by decide, rfl⟩
          | true =>
            have e5 : S.okB (ptAt (claimID c) 0) ⟨(claimPay c).to, (claimPay c).amt, h, false⟩ = true := h5
            have eo : outsGo (claimID c) h false S 0 [claimPay c] = (S.add1 (ptAt (claimID c) 0) ⟨c.st.owner, Int64.ofInt c.st.amt, h, false⟩, 0) := by rw [outs1, if_neg (by rw [h4]; simp), if_pos e5]; rfl
            rw [eo]
            exact .inr ⟨rfl, rfl, h1', rfl, rfl⟩
  · rw [if_neg h1]
    exact .inl ⟨_, h1, rfl⟩
theorem amt64 {c : ClaimM} (h : claimOK c = true) : (Int64.ofInt c.st.amt).toInt = c.st.amt := by
  have := (claimOK_iff.1 h).2.2.2.1
  exact Int64.toInt_ofInt_of_le (by omega) (by omega)
theorem checkX_zero {x : SideM} {c : ClaimM} (h : checkX x c = 0) : x.ceased = true ∧ c.acct ∉ x.used ∧ proofOK x.root c = true ∧ c.st.amt ≤ x.bal := by
  unfold checkX at h
  by_cases h1 : x.ceased = false
  · rw [if_pos h1] at h; cases h
  · rw [if_neg h1] at h
    by_cases h2 : c.acct ∈ x.used
    · rw [if_pos h2] at h; cases h
    · rw [if_neg h2] at h
      by_cases h3 : proofOK x.root c = false
      · rw [if_pos h3] at h; cases h
      · rw [if_neg h3] at h
        by_cases h4 : x.bal < c.st.amt
        · rw [if_pos h4] at h; cases h
        · exact ⟨by simpa using h1, h2, by simpa using h3, by omega⟩
structure KeepI (n : Int) (x : SideM) (S : USet) : Prop where
  sum : x.bal + x.clm = n
  bal : 0 ≤ x.bal
  clm : 0 ≤ x.clm
  tot : S.total = x.clm
  len : x.used.length = S.coins.length
  up : Rising x.used
  nd : KND S.coins
theorem wrap_id {n : Int} (h : -2 ^ 63 ≤ n ∧ n < 2 ^ 63) : IntKind.i64.wrap n = n := by rw [IntKind.wrap_i64]; omega
theorem has_false {S : USet} {p : Pt} (h : S.has p = false) : mget S.coins p = none := by
  have : (mget S.coins p).isSome = false := h
  simpa using this
theorem KeepI.paid {n : Int} {x : SideM} {S : USet} (h : KeepI n x S) (hn : n ≤ 1125899906842624) {c : ClaimM} (h1 : claimOK c = true) (h2 : checkX x c = 0) {p : Pt} {k : Coin} (h3 : S.has p = false) (hk : k.amt.toInt = c.st.amt) : KeepI n (takeX x c) (S.add1 p k) ∧ (takeX x c).bal = x.bal - c.st.amt ∧ (takeX x c).clm = x.clm + c.st.amt := by
  obtain ⟨c1, c2, c3, c4⟩ := checkX_zero h2
  have hb := h.bal
  have hc := h.clm
  have hs := h.sum
  have ha := (claimOK_iff.1 h1).2.2.2.1
  have e1 : IntKind.i64.wrap (x.bal - c.st.amt) = x.bal - c.st.amt := wrap_id (by omega)
  have e2 : IntKind.i64.wrap (x.clm + c.st.amt) = x.clm + c.st.amt := wrap_id (by omega)
  have hp := knd_put (v := k) h.nd (has_false h3)
  refine ⟨⟨?_, ?_, ?_, ?_, ?_, rising_ins h.up c2, hp.1⟩, e1, e2⟩
  · show IntKind.i64.wrap (x.bal - c.st.amt) + IntKind.i64.wrap (x.clm + c.st.amt) = n
    rw [e1, e2]; omega
  · show 0 ≤ IntKind.i64.wrap (x.bal - c.st.amt)
    rw [e1]; omega
  · show 0 ≤ IntKind.i64.wrap (x.clm + c.st.amt)
    rw [e2]; omega
  · show IntKind.i64.wrap (S.total + k.amt.toInt) = IntKind.i64.wrap (x.clm + c.st.amt)
    rw [h.tot, hk]
  · show (insU x.used c.acct).length = (mput S.coins p k).length
    rw [insU_len, h.len, hp.2]
theorem KeepI.take {n : Int} {x : SideM} {S : USet} (h : KeepI n x S) (hn : n ≤ 1125899906842624) (c : ClaimM) (H : Int64) : ∃ x' S' e, takeE [x] S c H = (([x'], S'), e) ∧ KeepI n x' S' ∧ S'.steps.length ≤ S.steps.length + 1 ∧ x'.used.length ≤ x.used.length + 1 ∧ x'.par = x.par ∧ x'.cert = x.cert := by
  rcases takeE_cases x S c H with ⟨e, _, h1⟩ | ⟨h1, h2, h3, h4, _⟩
  · exact ⟨x, S, e, h1, h, Nat.le_succ _, Nat.le_succ _, rfl, rfl⟩
  · refine ⟨_, _, _, h1, (h.paid hn h2 h3 h4 (amt64 h2)).1, ?_, ?_, rfl, rfl⟩
    · show (S.steps ++ [_]).length ≤ _
      rw [List.length_append]; exact Nat.le_refl _
    · show (insU x.used c.acct).length ≤ _
      rw [insU_len]; exact Nat.le_refl _
end Go.Proofs.YtnpkdoggfnlapaaGreatDoor
namespace Go.Proofs.YtnpkdoggfnlapaaGreatDoor
set_option maxRecDepth 100000
open Go.Sx
def u16 (x : UInt16) : Value := .int .u16 (x.toNat : Int)
def rowW (l : List UInt16) : Nat → List Value := fun i => [u16 (l.getD i 0)]
structure AcsM where
  pl : List UInt16
  am : List UInt16
def AcsM.ac (a : AcsM) : List AC := [.row 1 a.pl.length (rowW a.pl), .row 1 a.am.length (rowW a.am)]
def plA (a : AcsM) (i : Nat) : Nat := (a.pl.getD i 0).toNat
def apartB (a : AcsM) (i : Nat) : Bool := (List.range i).all fun k => !decide (plA a k = plA a i)
def accA (a : AcsM) (i : Nat) : AccM := ⟨⟨119, byteI (IntKind.u8.wrap ((i : Int) + 1)), 0, 0, 0, 0, 0, 0⟩, 1 + ((a.am.getD i 0).toNat : Int), ((i % 8 : Nat) : Int)⟩
def leafN (a : AcsM) (i : Nat) : H8 := leafA (plA a i : Int) (accA a i)
def treeN (a : AcsM) : Nat → LvM
  | 0 => []
  | k + 1 => lvPut (treeN a k) (plA a k) (leafN a k)
def rootA (a : AcsM) : H8 := nodeH (treeN a a.pl.length) 0 16
def claimN (a : AcsM) (i : Nat) : ClaimM := if i < a.pl.length then ⟨0, plA a i, accA a i, provS (treeN a a.pl.length) (plA a i)⟩ else claim0
structure Fair (a : AcsM) : Prop where
  few : a.pl.length ≤ 12
  le : a.pl.length ≤ a.am.length
  am : a.am.length ≤ 50
  apart : ∀ i k, i < a.pl.length → k < a.pl.length → plA a k = plA a i → k = i
theorem plA_lt (a : AcsM) (i : Nat) : plA a i < 65536 := (a.pl.getD i 0).toNat_lt
theorem tree_get {a : AcsM} (hf : Fair a) : ∀ (n : Nat), n ≤ a.pl.length → ∀ k, k < n → lvGet (treeN a n) (plA a k) = leafN a k
  | 0, _, k, hk => absurd hk (Nat.not_lt_zero _)
  | n + 1, hn, k, hk => by
    rw [treeN, lvPut_get]
    by_cases e : plA a k = plA a n
    · rw [if_pos e, hf.apart n k (by omega) (by omega) e]
    · have hkn : k ≠ n := fun h => e (by rw [h])
      rw [if_neg e]
      exact tree_get hf n (by omega) k (by omega)
theorem accA_amt (a : AcsM) (i : Nat) : 1 ≤ (accA a i).amt ∧ (accA a i).amt ≤ 65536 := by
  have := (a.am.getD i 0).toNat_lt
  simp only [accA]
  omega
theorem accA_owner (a : AcsM) (i : Nat) : zeroB (accA a i).owner = false := by
  rw [zeroB, decide_eq_false_iff_not]
  intro h
  have := congrArg H8.b0 h
  cases this
theorem claimN_ok {a : AcsM} {i : Nat} (hi : i < a.pl.length) : claimOK (claimN a i) = true := by
  have h1 := accA_amt a i
  have h2 := accA_owner a i
  have h3 := plA_lt a i
  rw [claimN, if_pos hi]
  refine claimOK_iff.2 ⟨⟨Int.le_refl 0, show (0 : Int) ≤ 7 by decide⟩, ⟨?_, ?_⟩, h2, ⟨h1.1, ?_⟩, ?_, ?_⟩
  · exact Int.natCast_nonneg _
  · show ((plA a i : Nat) : Int) ≤ 65535; omega
  · show (accA a i).amt ≤ _; omega
  · exact Int.natCast_nonneg _
  · show ((i % 8 : Nat) : Int) ≤ 255; omega
theorem claimN_proof {a : AcsM} (hf : Fair a) {i : Nat} (hi : i < a.pl.length) : proofOK (rootA a) (claimN a i) = true := by
  rw [claimN, if_pos hi]
  refine decide_eq_true ?_
  show upS (leafA (plA a i : Int) (accA a i)) ((plA a i : Nat) : Int).toNat (provS (treeN a a.pl.length) (plA a i)) 16 = _
  rw [Int.toNat_natCast, show leafA (plA a i : Int) (accA a i) = lvGet (treeN a a.pl.length) (plA a i) from (tree_get hf _ (Nat.le_refl _) i hi).symm]
  exact upS_top _ _ (plA_lt a i)
theorem claimN_side {a : AcsM} {i : Nat} (hi : i < a.pl.length) : (claimN a i).side = 0 := by rw [claimN, if_pos hi]
theorem claimN_acct {a : AcsM} {i : Nat} (hi : i < a.pl.length) : (claimN a i).acct = (plA a i : Int) := by rw [claimN, if_pos hi]
theorem claimN_st {a : AcsM} {i : Nat} (hi : i < a.pl.length) : (claimN a i).st = accA a i := by rw [claimN, if_pos hi]
theorem checkE_one {x : SideM} {c : ClaimM} (h1 : claimOK c = true) (h2 : c.side = 0) : checkE [x] c = checkX x c := by
  rw [checkE, if_neg (by rw [h1]; simp), if_neg (by rw [h2]; simp), h2]; rfl
theorem checkX_good {x : SideM} {c : ClaimM} (h1 : x.ceased = true) (h2 : c.acct ∉ x.used) (h3 : proofOK x.root c = true) (h4 : c.st.amt ≤ x.bal) : checkX x c = 0 := by
  rw [checkX, if_neg (by rw [h1]; simp), if_neg h2, if_neg (by rw [h3]; simp), if_neg (by omega)]
theorem take_paid {x : SideM} {S : USet} {c : ClaimM} {h : Int64} (h1 : claimOK c = true) (h2 : c.side = 0) (h3 : checkX x c = 0) (h4 : S.has (ptAt (claimID c) 0) = false) (h5 : S.okB (ptAt (claimID c) 0) ⟨c.st.owner, Int64.ofInt c.st.amt, h, false⟩ = true) :
    takeE [x] S c h = (([takeX x c], S.add1 (ptAt (claimID c) 0) ⟨c.st.owner, Int64.ofInt c.st.amt, h, false⟩), 0) := by
  have eo : outsGo (claimID c) h false S 0 [claimPay c] = (S.add1 (ptAt (claimID c) 0) ⟨c.st.owner, Int64.ofInt c.st.amt, h, false⟩, 0) := by
    have e5 : S.okB (ptAt (claimID c) 0) ⟨(claimPay c).to, (claimPay c).amt, h, false⟩ = true := h5
    rw [outs1, if_neg (by rw [h4]; simp), if_pos e5]; rfl
  rw [takeE, checkE_one h1 h2, if_pos h3, eo, if_pos rfl, h2]; rfl
theorem take_bad {x : SideM} {S : USet} {c : ClaimM} {h : Int64} {e : Int} (h3 : checkE [x] c = e) (he : e ≠ 0) : takeE [x] S c h = (([x], S), e) := by
  rw [takeE, if_neg (by rw [h3]; exact he), h3]
theorem okB_of {S : USet} {p : Pt} {k : Coin} (h1 : S.has p = false) (h2 : p.no.toInt = 0) (h3 : 1 ≤ k.amt.toInt) (h4 : 0 ≤ S.total) (h5 : S.total + k.amt.toInt ≤ 1125899906842624) : S.okB p k = true := by
  have e : IntKind.i64.wrap (S.total + k.amt.toInt) = S.total + k.amt.toInt := wrap_id (by omega)
  simp only [USet.okB, h1, h2, bothB, mayB, e, Bool.and_eq_true, Bool.not_eq_true', decide_eq_false_iff_not, decide_eq_true_eq, Bool.not_false, and_true]
  omega
end Go.Proofs.YtnpkdoggfnlapaaGreatDoor
namespace Go.Proofs.YtnpkdoggfnlapaaGreatDoor
set_option maxRecDepth 100000
open Go.Sx
def AccM.x (a : AccM) : CV := .agg (a.cells.map .raw)
end Go.Proofs.YtnpkdoggfnlapaaGreatDoor
namespace Go.Proofs.YtnpkdoggfnlapaaGreatDoor
set_option maxRecDepth 100000
open Go.Sx
def sideOf (p : ParM) (h : Int) : SideM := { side0 with par := p, made := h }
theorem sideOf_sized {p : ParM} {h : Int} (hl : p.keys.length ≤ 1000000) : (sideOf p h).Sized := ⟨hl, Nat.zero_le _, Nat.zero_le _, Nat.zero_le _⟩
set_option maxHeartbeats 4000000 in
theorem create_can (L : List SideM) (p : ParM) (h : Int) (hl : p.keys.length ≤ 1000000) (hL : L.length < 8) (hp : parB p = true) : Acts Tryz.prog 63 (.abs (pReg L)) (.abs (pReg (L ++ [sideOf p h]))) [.box p.ac, .plain (.one (.raw (.int .i64 h)))] [] (.tup [.one (.raw (.int .i64 L.length)), .one (.raw (.int .i64 0))]) := by
  have hq := qmay_can p (by omega)
  rw [hp] at hq
  have hc := copied_can (sideOf p h) (sideOf_sized hl)
  refine Acts.of Tryz.T_ok Tryz.func63 rfl _ _ _ _ _ rfl rfl rfl (fun C hC => ?_)
  (replace hC : C.n0 = 3 := hC; change Tri _ _ _ ⟨_, _, 3⟩ _)
  rcases L with _ | ⟨x, r⟩
  · refine Reg.opens0 rgS rgE 0 rfl (Tri.of Tryz.mixed Tryz.T_ok ?_)
    (refine xB ?_)
    (apply wP; exact (call_op rfl (entersB_of Tryz.func116 (by kernel_rfl)) rfl (hq.at [1] ⟨lend_par (lend_ro0 rfl rfl), trivial⟩ trivial)); refine xZ ?_)
    (apply wP; exact (call_op rfl (entersB_of Tryz.func56 (by kernel_rfl)) rfl (hc.at [1] ⟨lend_side (x := sideOf p h) (lend_ro0 rfl rfl) (lend_nil _ _) (lend_nil _ _) (lend_nil _ _), trivial⟩ trivial)); refine xZ ?_)
    (refine wP _ _ (boxSlice_op Tryz.T_ok rfl rfl rfl) ?_; refine xZ ?_)
    (refine wP _ _ (appendBox_op Tryz.T_ok rfl rfl rfl rfl rfl rfl rfl rfl rfl rfl rfl (by decide) (boxed_ins (sideOf p h) 29)) ?_; refine xZ ?_)
    exact wD (Ends.shutN (.inr rfl) (Reg.shuts rgS rgE [sideOf p h] 0 (i1 := 31) Nat.one_pos rfl rfl rfl rfl rfl (lt1 rfl)) rfl rfl rfl)
  · refine Reg.opensD rgS rgE (x :: r) 0 (Nat.succ_pos _) rfl (Tri.of Tryz.mixed Tryz.T_ok ?_)
    (refine xB ?_)
    (apply wP; exact (call_op rfl (entersB_of Tryz.func116 (by kernel_rfl)) rfl (hq.at [1] ⟨lend_par (lend_ro0 rfl rfl), trivial⟩ trivial)); refine xZ ?_)
    (refine wFd ?_ ?_; (first | refine decide_eq_false ?_ | rw [beq_eq_false_iff_ne] | rw [bne_eq_false_iff_eq]); exact xW; refine xG ?_)
    (apply wP; exact (call_op rfl (entersB_of Tryz.func56 (by kernel_rfl)) rfl (hc.at [1] ⟨lend_side (x := sideOf p h) (lend_ro0 rfl rfl) (lend_nil _ _) (lend_nil _ _) (lend_nil _ _), trivial⟩ trivial)); refine xZ ?_)
    (refine wP _ _ (boxSlice_op Tryz.T_ok rfl rfl rfl) ?_; refine xZ ?_)
    (refine wP _ _ (appendBoxes_op Tryz.T_ok rfl rfl rfl rfl rfl rfl rfl rfl rfl rfl (by decide) (by decide) rfl rfl (by simp only [maxLen]; omega) (by dsimp only; omega) (boxed_ins (sideOf p h) 30)) ?_; refine xZ ?_)
    have hl1 : ((x :: r) ++ [sideOf p h]).length = (x :: r).length + 1 := by simp
    refine wD (Ends.shutN (.inr rfl) (Reg.shuts rgS rgE ((x :: r) ++ [sideOf p h]) 0 (i1 := 32) (by omega) rfl rfl rfl hl1.symm hl1.symm (fun i hi => regF_snoc (by omega))) rfl rfl ?_)
    have e : IntKind.i64.wrap ((((x :: r).length + 1 : Nat) : Int) - 1) = ((x :: r).length : Int) := xW
    rw [e]
theorem regF_at {L : List SideM} {i : Nat} (hi : i < L.length) {x : SideM} : regF (L.set i x) i = x.ac := by
  rw [regF, List.getD_eq_getElem?_getD, List.getElem?_set_self hi]; rfl
theorem regF_ne {L : List SideM} {i k : Nat} (h : k ≠ i) {x : SideM} : regF (L.set i x) k = regF L k := by
  rw [regF, regF, List.getD_eq_getElem?_getD, List.getD_eq_getElem?_getD, List.getElem?_set_ne (fun e => h e.symm)]
theorem side_rows {x y : SideM} (h1 : x.par.keys = y.par.keys) (h2 : x.cert.outs = y.cert.outs) (h3 : x.cert.sigs = y.cert.sigs) (h4 : x.used = y.used) {j : Nat} {a : AC} (h : x.ac[j]? = some a) : (∃ u, a = AC.raw u) ∨ y.ac[j]? = some a := by
  have hj : j < 42 := by have := (List.getElem?_eq_some_iff.1 h).1; rwa [SideM.ac_len] at this
  have e3 : x.ac[3]? = y.ac[3]? := by show some (AC.row 8 x.par.keys.length (keysF x.par.keys)) = some (AC.row 8 y.par.keys.length (keysF y.par.keys)); rw [h1]
  have e39 : x.ac[39]? = y.ac[39]? := by show some (AC.row 9 x.cert.outs.length (outsF x.cert.outs)) = some (AC.row 9 y.cert.outs.length (outsF y.cert.outs)); rw [h2]
  have e40 : x.ac[40]? = y.ac[40]? := by show some (AC.row 282 x.cert.sigs.length (sgdsF x.cert.sigs)) = some (AC.row 282 y.cert.sigs.length (sgdsF y.cert.sigs)); rw [h3]
  have e41 : x.ac[41]? = y.ac[41]? := by show some (AC.row 1 x.used.length (intsF x.used)) = some (AC.row 1 y.used.length (intsF y.used)); rw [h4]
  by_cases k3 : j = 3
  · subst k3; exact .inr (e3 ▸ h)
  by_cases k39 : j = 39
  · subst k39; exact .inr (e39 ▸ h)
  by_cases k40 : j = 40
  · subst k40; exact .inr (e40 ▸ h)
  by_cases k41 : j = 41
  · subst k41; exact .inr (e41 ▸ h)
  left
  have raw : ∀ j, j < 42 → j ≠ 3 → j ≠ 39 → j ≠ 40 → j ≠ 41 → ∃ u, x.ac[j]? = some (AC.raw u) := by
    intro j hj _ _ _ _
    iterate 42 (rcases j with _ | j; · first | exact ⟨_, rfl⟩ | contradiction)
    omega
  obtain ⟨u, hu⟩ := raw j hj k3 k39 k40 k41
  rw [hu] at h
  exact ⟨u, by simpa using h.symm⟩
def fwdC (s a : Int) (o : H8) (n : Int) : CV := .agg ((.int .i64 s :: .int .i64 a :: (o.cells ++ [.int .i64 n])).map .raw)
def roomI (n : Int) : Int := IntKind.i64.wrap (1125899906842624 - n)
def fwdOKX (x : SideM) (n : Int) : Bool := !(decide (n < 1)) && (mayB n && (!(decide (roomI n < x.bal)) && !(decide (roomI n < x.fwd))))
def fwdE (x : SideM) (n : Int) : Int := if x.ceased = true then 14 else if fwdOKX x n = true then 0 else 5
def fwdX (x : SideM) (n : Int) : SideM := if fwdE x n = 0 then { x with bal := IntKind.i64.wrap (x.bal + n), fwd := IntKind.i64.wrap (x.fwd + n) } else x
theorem set_same {L : List SideM} {i : Nat} (hi : i < L.length) {x : SideM} (h : x = L.getD i default) : L.set i x = L := by
  subst h
  rw [List.getD_eq_getElem?_getD, List.getElem?_eq_getElem hi]
  exact List.set_getElem_self hi
theorem fwd_same {L : List SideM} {i : Nat} (hi : i < L.length) {n : Int} (h : fwdE (L.getD i default) n ≠ 0) : L.set i (fwdX (L.getD i default) n) = L := set_same hi (by rw [fwdX, if_neg h])
set_option maxHeartbeats 4000000 in
theorem forward_in (L : List SideM) (i : Nat) (hi : i < L.length) (a : Int) (o : H8) (n : Int) : Acts Tryz.prog 66 (.abs (pReg L)) (.abs (pReg (L.set i (fwdX (L.getD i default) n)))) [.plain (fwdC i a o n)] [] (XV.int .i64 (fwdE (L.getD i default) n)) := by
  have h0 : 0 < L.length := by omega
  have hin : inB L (i : Int) = true := by rw [inB, Bool.and_eq_true, decide_eq_true_eq, decide_eq_true_eq]; omega
  have hreg := regIn_can L (i : Int)
  rw [hin] at hreg
  refine Acts.of Tryz.T_ok Tryz.func66 rfl _ _ _ _ _ rfl rfl rfl (fun C hC => ?_)
  (replace hC : C.n0 = 2 := hC; change Tri _ _ _ ⟨_, _, 2⟩ _)
  (refine Tri.cut 2 Tryz.mixed Tryz.T_ok ?_; refine xZ ?_)
  (apply wP; exact (call_op rfl (entersB_of Tryz.func55 (by kernel_rfl)) rfl (hreg.at [] rfl rfl rfl ⟨lend_plain rfl, trivial⟩ trivial)); refine xZ ?_)
  refine wD <| cutG <| Reg.opens rgS rgE L 0 h0 rfl (Nat.le_of_ble_eq_true rfl) (fun ad => ?_)
  (refine Tri.cut 4 Tryz.mixed Tryz.T_ok ?_; refine xZ ?_)
  (repeat (refine wN ?_ ?_; exact xW; refine xG ?_))
  simp only [Nat.zero_add, Int.toNat_natCast]
  obtain ⟨x, hx⟩ : ∃ x, L.getD i default = x := ⟨_, rfl⟩
  have no : ∀ {S : St} {mem : Mem} {e : Int}, fwdE x n = e → e ≠ 0 → Ent C S ⟨S.slots, (0, .abs (pReg L)) :: mem, S.nx⟩ → resX Tryz.T ⟨S.slots, (0, .abs (pReg L)) :: mem, S.nx⟩ Tryz.f66.results.toList = some (XV.int .i64 e) →
      Sx.Ends C Tryz.T Tryz.f66.results.toList 1 2 ⟨XV.int .i64 (fwdE (L.getD i default) n), [(0, .abs (pReg (L.set i (fwdX (L.getD i default) n))))], none⟩ .ret S := by
    intro S mem e he h0 hE hr
    rw [fwd_same hi (by rw [hx, he]; exact h0), hx, he]
    exact Ends.shutN (.inr rfl) hE rfl hr rfl
  have shut := fun {slots : List (Option XV)} {mem : Mem} {nx : Nat} k0 k1 k2 => Reg.shutsO (C := C) (slots := slots) (mem := mem) (nx := nx) rgS rgE L L 0 (i1 := 14) (q := 15) (ad := ad) (m := L.length) (n := L.length) h0 k0 k1 k2 rfl rfl rfl (fun _ _ => rfl) regF_raw
  refine wC (fun h1 => ?_) (fun h1 => ?_)
  · rw [hx] at h1
    (refine xG ?_)
    exact wD (cutR (no (if_pos h1) (by decide) (shut rfl rfl rfl) rfl))
  rw [hx] at h1
  have bad : fwdOKX x n = false → fwdE x n = 5 := fun h => by rw [fwdE, if_neg (by rw [h1]; simp), if_neg (by rw [h]; simp)]
  (refine xG ?_)
  refine wC (fun h2 => ?_) (fun h2 => ?_)
  · (refine xG ?_)
    exact wD (cutR (no (bad (by rw [fwdOKX, h2]; rfl)) (by decide) (shut rfl rfl rfl) rfl))
  (refine xG ?_)
  (apply wP; exact (call_op rfl (entersB_of Tryz.func119 (by kernel_rfl)) rfl (may_spec n _ _)); refine xZ ?_)
  refine wC (fun h3 => ?_) (fun h3 => ?_)
  · have h3 : mayB n = false := by simpa using h3
    (refine xG ?_)
    exact wD (cutR (no (bad (by rw [fwdOKX, h2, h3]; rfl)) (by decide) (shut rfl rfl rfl) rfl))
  have h3 : mayB n = true := by simpa using h3
  (refine xG ?_)
  (repeat (refine wN ?_ ?_; exact xW; refine xG ?_))
  refine wC (fun h4 => ?_) (fun h4 => ?_)
  · rw [hx] at h4
    (refine xG ?_)
    exact wD (cutR (no (bad (by rw [fwdOKX, h2, h3, roomI, h4]; rfl)) (by decide) (shut rfl rfl rfl) rfl))
  rw [hx] at h4
  (refine xG ?_)
  (repeat (refine wN ?_ ?_; exact xW; refine xG ?_))
  refine wC (fun h5 => ?_) (fun h5 => ?_)
  · rw [hx] at h5
    (refine xG ?_)
    exact wD (cutR (no (bad (by rw [fwdOKX, h2, h3, roomI, h4, h5]; rfl)) (by decide) (shut rfl rfl rfl) rfl))
  rw [hx] at h5
  have he : fwdE x n = 0 := by rw [fwdE, if_neg (by rw [h1]; simp), if_pos (by rw [fwdOKX, h2, h3, roomI, h4, h5]; rfl)]
  have hX : fwdX x n = { x with bal := IntKind.i64.wrap (x.bal + n), fwd := IntKind.i64.wrap (x.fwd + n) } := by rw [fwdX, if_pos he]
  (refine xG ?_)
  (repeat (refine wN ?_ ?_; exact xW; refine xG ?_))
  simp only [Nat.zero_add, Int.toNat_natCast]
  rw [hx]
  refine wD <| cutG <| Tri.ent (Ent.chg0 (c := 14) (g := fun k => fillA 0 (regF (L.set i { x with bal := IntKind.i64.wrap (x.bal + n) }) k) (ad k)) rfl fun k hk => ?_) (Tri.of Tryz.mixed Tryz.T_ok ?_)
  · by_cases hki : k = i
    · subst hki
      rw [updF_eq, regF_at hi, regF, hx]; rfl
    · rw [updF_ne hki, regF_ne hki]
  (refine xB ?_)
  (repeat (refine wN ?_ ?_; exact xW; refine xG ?_))
  simp only [Nat.zero_add, Int.toNat_natCast]
  have hg : (L.set i { x with bal := IntKind.i64.wrap (x.bal + n) }).getD i default = { x with bal := IntKind.i64.wrap (x.bal + n) } := by
    rw [List.getD_eq_getElem?_getD, List.getElem?_set_self hi]; rfl
  rw [hg, he, hX]
  have hl : ∀ y : SideM, (L.set i y).length = L.length := fun y => List.length_set ..
  refine wD (Ends.shutN (.inr rfl) (Reg.shutsO rgS rgE L (L.set i { x with bal := IntKind.i64.wrap (x.bal + n), fwd := IntKind.i64.wrap (x.fwd + n) }) 0 (i1 := 14) (q := 15) (ad := ad) (by rw [hl]; exact h0) rfl rfl rfl rfl (hl _).symm (hl _).symm (fun k hk => ?_) (fun k hk j y hy => ?_)) rfl rfl rfl)
  · by_cases hki : k = i
    · subst hki
      rw [updF_eq, regF_at hi, regF_at hi]; rfl
    · rw [updF_ne hki, regF_ne hki, regF_ne hki]
  · by_cases hki : k = i
    · subst hki
      rw [regF_at hi] at hy
      rw [regF, hx]
      exact side_rows (x := { x with bal := IntKind.i64.wrap (x.bal + n), fwd := IntKind.i64.wrap (x.fwd + n) }) (y := x) rfl rfl rfl rfl hy
    · rw [regF_ne hki] at hy
      exact .inr hy
end Go.Proofs.YtnpkdoggfnlapaaGreatDoor
