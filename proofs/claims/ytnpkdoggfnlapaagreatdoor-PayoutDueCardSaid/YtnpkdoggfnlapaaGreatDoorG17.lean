/- Parts Tc La Ya Yg Yh Yi. -/
import Derived.Test.YtnpkdoggfnlapaaGreatDoorG16
import Derived.Test.YtnpkdoggfnlapaaGreatDoorG12
set_option linter.unusedSimpArgs false
set_option linter.unusedVariables false
namespace Go.Proofs.YtnpkdoggfnlapaaGreatDoor
set_option maxRecDepth 100000
open Go.Sx
theorem range_all_succ (p : Nat → Bool) (i : Nat) : (List.range (i + 1)).all p = ((List.range i).all p && p i) := by rw [List.range_succ, List.all_append]; simp
theorem range_all_false {p : Nat → Bool} {n i : Nat} (hi : i < n) (h : p i = false) : (List.range n).all p = false := by
  rw [List.all_eq_false]
  exact ⟨i, List.mem_range.2 hi, by rw [h]; simp⟩
theorem getD_take {E : Type} [Inhabited E] {l : List E} {i j : Nat} (h : j < i) : (l.take i).getD j default = l.getD j default := by
  rw [List.getD_eq_getElem?_getD, List.getD_eq_getElem?_getD, List.getElem?_take_of_lt h]
theorem LendsC.all_raw {M : Mem} {rd : List Nat} : ∀ vs : List Value, LendsC M rd (vs.map .raw) (vs.map .raw)
  | [] => trivial
  | _ :: vs => ⟨rfl, LendsC.all_raw vs⟩
def parCells (p : ParM) (s : SV) : List SV := .raw (.int .i64 p.len) :: .raw (.int .i64 p.win) :: .raw (.int .i64 p.need) :: [s]
def certCells (c : CertM) (s1 s2 : SV) : List SV := .raw (.int .i64 c.side) :: .raw (.int .i64 c.ep) :: .raw (.int .i64 c.qual) :: (c.fin.cells.map .raw ++ (c.root.cells.map .raw ++ [s1, s2]))
def txCells (t : TxM) (s1 s2 s3 s4 s5 s6 : SV) : List SV := .raw (.int .i64 t.kind) :: .raw (.int .i64 t.height) :: s1 :: s2 :: s3 :: (parCells t.par s4 ++ (certCells t.cert s5 s6 ++ t.claim.cells.map .raw))
theorem lend_cert_cells {M : Mem} {rd : List Nat} {c : CertM} {s1 s2 : SV} {r : List SV} {l : List AC} (h1 : Lends M rd (.one s1) (.row 9 c.outs.length (outsF c.outs))) (h2 : Lends M rd (.one s2) (.row 282 c.sigs.length (sgdsF c.sigs))) (h : LendsC M rd r l) : LendsC M rd (certCells c s1 s2 ++ r) (c.ac ++ l) := by
  refine ⟨rfl, rfl, rfl, ?_⟩
  show LendsC M rd ((c.fin.cells.map .raw ++ (c.root.cells.map .raw ++ [s1, s2])) ++ r) ((rC c.fin.cells ++ (rC c.root.cells ++ [AC.row 9 c.outs.length (outsF c.outs), .row 282 c.sigs.length (sgdsF c.sigs)])) ++ l)
  rw [List.append_assoc, List.append_assoc, List.append_assoc, List.append_assoc]
  refine LendsC.raws ?_ _
  refine LendsC.raws ?_ _
  exact ⟨h1, h2, h⟩
theorem lend_tx {M : Mem} {rd : List Nat} {t : TxM} {s1 s2 s3 s4 s5 s6 : SV} (h1 : Lends M rd (.one s1) (.row 298 t.ins.length (insF t.ins))) (h2 : Lends M rd (.one s2) (.row 9 t.outs.length (outsF t.outs))) (h3 : Lends M rd (.one s3) (.row 11 t.fwds.length (fwdsF t.fwds)))
    (h4 : Lends M rd (.one s4) (.row 8 t.par.keys.length (keysF t.par.keys))) (h5 : Lends M rd (.one s5) (.row 9 t.cert.outs.length (outsF t.cert.outs))) (h6 : Lends M rd (.one s6) (.row 282 t.cert.sigs.length (sgdsF t.cert.sigs))) : Lends M rd (.agg (txCells t s1 s2 s3 s4 s5 s6)) (.box t.ac) :=
  lend_box ⟨rfl, rfl, h1, h2, h3, rfl, rfl, rfl, h4, lend_cert_cells h5 h6 (LendsC.all_raw _)⟩
def parZ (p : ParM) : Bool := p.len == 0 && (p.win == 0 && (p.need == 0 && (p.keys.length : Int) == 0))
def certZ (c : CertM) : Bool := c.side == 0 && (c.ep == 0 && (c.qual == 0 && (zeroB c.fin && (zeroB c.root && ((c.outs.length + c.sigs.length : Nat) : Int) == 0))))
def emptyB (t : TxM) : Bool := t.height == 0 && (((t.ins.length + t.outs.length + t.fwds.length : Nat) : Int) == 0 && (parZ t.par && certZ t.cert))
structure Sized (t : TxM) : Prop where
  ins : t.ins.length ≤ 1000000000
  outs : t.outs.length ≤ 1000000000
  fwds : t.fwds.length ≤ 1000000000
  keys : t.par.keys.length ≤ 1000000000
  couts : t.cert.outs.length ≤ 1000000000
  sigs : t.cert.sigs.length ≤ 1000000000
def TxM.cs (t : TxM) : List SV := boxC 0 t.ac
def emptyM (t : TxM) : Mem := [(6, .cells 48 t.cs)]
def certCs (t : TxM) : List SV := boxC 4 t.cert.ac
def emptySt2 (t : TxM) : St := ⟨[none, some (XV.sv (.ptr 6 0 0 0)), none, none, some (XV.sv (.ptr 7 0 0 0)), some (XV.bool (parZ t.par))] ++ List.replicate 86 none, emptyM t ++ [(7, .cells 43 (certCs t))], 8⟩
def emptySt3 (t : TxM) : St := ⟨[none, some (XV.sv (.ptr 6 0 0 0)), none, none, none, some (XV.bool (parZ t.par)), some (XV.bool (certZ t.cert))] ++ List.replicate 85 none, emptyM t, 7⟩
def claimK : List Kd := [.int .i64, .int .i64] ++ (hashKinds ++ ([.int .i64, .int .i64] ++ (List.replicate 16 hashKinds).flatten))
theorem claim_deep : Tryz.prog.keyTypeAt 8 46 = true := by kernel_rfl
theorem claim_keyT : Tryz.prog.keyType 46 = true := by kernel_rfl
theorem claim_row : (46 : TypeId) < Tryz.prog.types.size := of_decide_eq_true (by kernel_rfl)
theorem claim_law : WideMaps.KeyLaw Tryz.prog 46 := deep_law_laid laid (m := 8) (by omega) claim_row claim_deep (by rw [Tryz.underlying46])
theorem claim_cells : claimK.length = Tryz.prog.cellsOf 46 := by kernel_rfl
theorem claim_noguard : Tryz.prog.eqGuardType Tryz.prog.depth 46 = false := by kernel_rfl
def ClaimV := { cs : List Value // Fits claimK cs }
noncomputable instance : DecidableEq ClaimV := fun _ _ => Classical.propDecidable _
def ClaimV.v (c : ClaimV) : Value := .agg c.1.toArray
theorem ClaimV.inj (a b : ClaimV) (h : a.v = b.v) : a = b := by
  apply Subtype.ext
  have := congrArg (fun v => v.cells.toList) h
  simpa [ClaimV.v, Value.cells] using this
theorem claim_key (h : ClaimV) : ∃ l, keyOf Tryz.prog 46 h.v = some l := keyOf_fits Tryz.T_ok (f := 8) (ks := claimK) rfl claim_deep claim_keyT types_many (by rw [Tryz.underlying46]) h.2 claim_cells
theorem claimE : EqK Tryz.prog 46 ClaimV.v := EqK.of (m := 8) claim_law (by omega) claim_deep (by rw [Tryz.underlying46]) claim_key ClaimV.inj claim_noguard (fun a => ⟨_, rfl⟩)
theorem hashes_fits : ∀ (n : Nat) (f : Nat → H8) (i : Nat), Fits ((List.replicate n hashKinds).flatten) (tabF (hashF f) i n)
  | 0, _, _ => rfl
  | n + 1, f, i => by rw [List.replicate_succ, List.flatten_cons]; exact Fits.append (hash_fits (f i)) (hashes_fits n f (i + 1))
def inI64 (n : Int) : Prop := (Lit.int .i64 n).wf = true
structure ClaimM.Wf (c : ClaimM) : Prop where
  side : inI64 c.side
  acct : inI64 c.acct
  amt : inI64 c.st.amt
  nonce : inI64 c.st.nonce
theorem ClaimM.fits {c : ClaimM} (h : c.Wf) : Fits claimK c.cells := by
  refine ⟨_, _, rfl, ⟨_, rfl, h.side⟩, _, _, rfl, ⟨_, rfl, h.acct⟩, ?_⟩
  have e : c.st.cells ++ tabF (hashF c.proof) 0 16 = c.st.owner.cells ++ ([.int .i64 c.st.amt, .int .i64 c.st.nonce] ++ tabF (hashF c.proof) 0 16) := by simp [AccM.cells]
  rw [e]
  show Fits (hashKinds ++ ([.int .i64, .int .i64] ++ (List.replicate 16 hashKinds).flatten)) _
  exact Fits.append (hash_fits _) (Fits.append ⟨_, _, rfl, ⟨_, rfl, h.amt⟩, _, _, rfl, ⟨_, rfl, h.nonce⟩, rfl⟩ (hashes_fits 16 _ 0))
theorem claim0_wf : claim0.Wf := ⟨rfl, rfl, rfl, rfl⟩
def ClaimM.cv (c : ClaimM) (h : c.Wf) : ClaimV := ⟨c.cells, c.fits h⟩
noncomputable def claimZ (c : ClaimM) (h : c.Wf) : Bool := decide (c.cv h = claim0.cv claim0_wf)
theorem claimZ_zero (h : claim0.Wf) : claimZ claim0 h = true := decide_eq_true rfl
set_option maxHeartbeats 4000000 in
theorem empty_can (t : TxM) (hs : Sized t) (hc : t.claim.Wf) : Reads Tryz.prog 140 [.box t.ac] [] (XV.bool (emptyB t && claimZ t.claim hc)) := by
  have hi := hs.ins
  have ho := hs.outs
  have hf := hs.fwds
  have hco := hs.couts
  have hcs := hs.sigs
  refine Reads.of Tryz.T_ok Tryz.func140 rfl _ _ _ rfl rfl (fun C hC => ?_)
  (replace hC : C.n0 = 6 := hC; change Tri _ _ _ ⟨_, _, 6⟩ _)
  (refine Tri.cut 2 Tryz.mixed Tryz.T_ok ?_; refine xZ ?_)
  refine wD <| cutG <| Tri.merge (emptySt2 t) (Tri.of Tryz.mixed Tryz.T_ok ?_) ?_
  · (refine xB ?_)
    refine wC (fun h1 => ?_) (fun h1 => ?_)
    · (refine xG ?_)
      refine wC (fun h2 => ?_) (fun h2 => ?_)
      · (refine xG ?_)
        refine wC (fun h3 => ?_) (fun h3 => ?_)
        · (refine xG ?_)
          refine wD ⟨rfl, ?_⟩
          unfold emptySt2
          rw [show parZ t.par = ((t.par.keys.length : Int) == 0) by rw [parZ, h1, h2, h3]; rfl]
          ((try dsimp only); refine Ent.renC [0, 1, 2, 3, 4, 5, 6, 13] hC ?_ ?_ <;> repeat' (first | exact trivial | exact rfl | exact ⟨_, rfl, rfl, rfl, Nat.le_refl _, fun _ _ => rfl⟩ | exact ⟨_, rfl, rfl, rfl, fun _ _ => rfl⟩ | exact ⟨_, rfl, rfl, rfl⟩ | exact ⟨_, rfl, rfl⟩ | refine ⟨_, rfl, rfl, rfl, by omega, fun k hk => ?_⟩ | refine ⟨?_, ?_⟩ | fail))
        · (refine xG ?_)
          refine wD ⟨rfl, ?_⟩
          unfold emptySt2
          rw [show parZ t.par = false by rw [parZ, h1, h2, h3]; rfl]
          ((try dsimp only); refine Ent.renC [0, 1, 2, 3, 4, 5, 6, 13] hC ?_ ?_ <;> repeat' (first | exact trivial | exact rfl | exact ⟨_, rfl, rfl, rfl, Nat.le_refl _, fun _ _ => rfl⟩ | exact ⟨_, rfl, rfl, rfl, fun _ _ => rfl⟩ | exact ⟨_, rfl, rfl, rfl⟩ | exact ⟨_, rfl, rfl⟩ | refine ⟨_, rfl, rfl, rfl, by omega, fun k hk => ?_⟩ | refine ⟨?_, ?_⟩ | fail))
      · (refine xG ?_)
        refine wD ⟨rfl, ?_⟩
        unfold emptySt2
        rw [show parZ t.par = false by rw [parZ, h1, h2]; rfl]
        ((try dsimp only); refine Ent.renC [0, 1, 2, 3, 4, 5, 6, 13] hC ?_ ?_ <;> repeat' (first | exact trivial | exact rfl | exact ⟨_, rfl, rfl, rfl, Nat.le_refl _, fun _ _ => rfl⟩ | exact ⟨_, rfl, rfl, rfl, fun _ _ => rfl⟩ | exact ⟨_, rfl, rfl, rfl⟩ | exact ⟨_, rfl, rfl⟩ | refine ⟨_, rfl, rfl, rfl, by omega, fun k hk => ?_⟩ | refine ⟨?_, ?_⟩ | fail))
    · (refine xG ?_)
      refine wD ⟨rfl, ?_⟩
      unfold emptySt2
      rw [show parZ t.par = false by rw [parZ, h1]; rfl]
      ((try dsimp only); refine Ent.renC [0, 1, 2, 3, 4, 5, 6, 13] hC ?_ ?_ <;> repeat' (first | exact trivial | exact rfl | exact ⟨_, rfl, rfl, rfl, Nat.le_refl _, fun _ _ => rfl⟩ | exact ⟨_, rfl, rfl, rfl, fun _ _ => rfl⟩ | exact ⟨_, rfl, rfl, rfl⟩ | exact ⟨_, rfl, rfl⟩ | refine ⟨_, rfl, rfl, rfl, by omega, fun k hk => ?_⟩ | refine ⟨?_, ?_⟩ | fail))
  refine Tri.merge (emptySt3 t) (Tri.of Tryz.mixed Tryz.T_ok ?_) (Tri.of Tryz.mixed Tryz.T_ok ?_)
  · (refine xB ?_)
    have fin : ∀ {S : St} {b : Bool}, b = certZ t.cert → Ent C S ⟨(emptySt3 t).slots.set 6 (some (XV.bool b)), (emptySt3 t).mem, 7⟩ → Ent C S (emptySt3 t) := by
      intro S b hb h; subst hb; exact h
    refine wC (fun h1 => ?_) (fun h1 => ?_)
    · (refine xG ?_)
      refine wC (fun h2 => ?_) (fun h2 => ?_)
      · (refine xG ?_)
        refine wC (fun h3 => ?_) (fun h3 => ?_)
        · (refine xG ?_)
          (apply wP; exact (call_op rfl (entersB_of Tryz.func145 (by kernel_rfl)) rfl ((zero_can t.cert.fin).at [] ⟨lend_plain rfl, trivial⟩ trivial)); refine xZ ?_)
          refine wC (fun h4 => ?_) (fun h4 => ?_)
          · (refine xG ?_)
            (apply wP; exact (call_op rfl (entersB_of Tryz.func145 (by kernel_rfl)) rfl ((zero_can t.cert.root).at [] ⟨lend_plain rfl, trivial⟩ trivial)); refine xZ ?_)
            refine wC (fun h5 => ?_) (fun h5 => ?_)
            · (refine xG ?_)
              have e : IntKind.i64.wrap ((t.cert.outs.length : Int) + (t.cert.sigs.length : Int)) = ((t.cert.outs.length + t.cert.sigs.length : Nat) : Int) := xW
              rw [e]
              refine wD ⟨rfl, fin (b := (((t.cert.outs.length + t.cert.sigs.length : Nat) : Int) == 0)) (by rw [certZ, h1, h2, h3, h4, h5]; rfl) ?_⟩
              ((try dsimp only); refine Ent.renC [0, 1, 2, 3, 4, 5, 6] hC ?_ ?_ <;> repeat' (first | exact trivial | exact rfl | exact ⟨_, rfl, rfl, rfl, Nat.le_refl _, fun _ _ => rfl⟩ | exact ⟨_, rfl, rfl, rfl, fun _ _ => rfl⟩ | exact ⟨_, rfl, rfl, rfl⟩ | exact ⟨_, rfl, rfl⟩ | refine ⟨_, rfl, rfl, rfl, by omega, fun k hk => ?_⟩ | refine ⟨?_, ?_⟩ | fail))
            · (refine xG ?_)
              refine wD ⟨rfl, fin (b := false) (by rw [certZ, h1, h2, h3, h4, h5]; rfl) ?_⟩
              ((try dsimp only); refine Ent.renC [0, 1, 2, 3, 4, 5, 6] hC ?_ ?_ <;> repeat' (first | exact trivial | exact rfl | exact ⟨_, rfl, rfl, rfl, Nat.le_refl _, fun _ _ => rfl⟩ | exact ⟨_, rfl, rfl, rfl, fun _ _ => rfl⟩ | exact ⟨_, rfl, rfl, rfl⟩ | exact ⟨_, rfl, rfl⟩ | refine ⟨_, rfl, rfl, rfl, by omega, fun k hk => ?_⟩ | refine ⟨?_, ?_⟩ | fail))
          · (refine xG ?_)
            refine wD ⟨rfl, fin (b := false) (by rw [certZ, h1, h2, h3, h4]; rfl) ?_⟩
            ((try dsimp only); refine Ent.renC [0, 1, 2, 3, 4, 5, 6] hC ?_ ?_ <;> repeat' (first | exact trivial | exact rfl | exact ⟨_, rfl, rfl, rfl, Nat.le_refl _, fun _ _ => rfl⟩ | exact ⟨_, rfl, rfl, rfl, fun _ _ => rfl⟩ | exact ⟨_, rfl, rfl, rfl⟩ | exact ⟨_, rfl, rfl⟩ | refine ⟨_, rfl, rfl, rfl, by omega, fun k hk => ?_⟩ | refine ⟨?_, ?_⟩ | fail))
        · (refine xG ?_)
          refine wD ⟨rfl, fin (b := false) (by rw [certZ, h1, h2, h3]; rfl) ?_⟩
          ((try dsimp only); refine Ent.renC [0, 1, 2, 3, 4, 5, 6] hC ?_ ?_ <;> repeat' (first | exact trivial | exact rfl | exact ⟨_, rfl, rfl, rfl, Nat.le_refl _, fun _ _ => rfl⟩ | exact ⟨_, rfl, rfl, rfl, fun _ _ => rfl⟩ | exact ⟨_, rfl, rfl, rfl⟩ | exact ⟨_, rfl, rfl⟩ | refine ⟨_, rfl, rfl, rfl, by omega, fun k hk => ?_⟩ | refine ⟨?_, ?_⟩ | fail))
      · (refine xG ?_)
        refine wD ⟨rfl, fin (b := false) (by rw [certZ, h1, h2]; rfl) ?_⟩
        ((try dsimp only); refine Ent.renC [0, 1, 2, 3, 4, 5, 6] hC ?_ ?_ <;> repeat' (first | exact trivial | exact rfl | exact ⟨_, rfl, rfl, rfl, Nat.le_refl _, fun _ _ => rfl⟩ | exact ⟨_, rfl, rfl, rfl, fun _ _ => rfl⟩ | exact ⟨_, rfl, rfl, rfl⟩ | exact ⟨_, rfl, rfl⟩ | refine ⟨_, rfl, rfl, rfl, by omega, fun k hk => ?_⟩ | refine ⟨?_, ?_⟩ | fail))
    · (refine xG ?_)
      refine wD ⟨rfl, fin (b := false) (by rw [certZ, h1]; rfl) ?_⟩
      ((try dsimp only); refine Ent.renC [0, 1, 2, 3, 4, 5, 6] hC ?_ ?_ <;> repeat' (first | exact trivial | exact rfl | exact ⟨_, rfl, rfl, rfl, Nat.le_refl _, fun _ _ => rfl⟩ | exact ⟨_, rfl, rfl, rfl, fun _ _ => rfl⟩ | exact ⟨_, rfl, rfl, rfl⟩ | exact ⟨_, rfl, rfl⟩ | refine ⟨_, rfl, rfl, rfl, by omega, fun k hk => ?_⟩ | refine ⟨?_, ?_⟩ | fail))
  · (refine xB ?_)
    refine wC (fun h1 => ?_) (fun h1 => ?_)
    · (refine xG ?_)
      have e1 : IntKind.i64.wrap ((t.ins.length : Int) + (t.outs.length : Int)) = ((t.ins.length + t.outs.length : Nat) : Int) := xW
      have e2 : IntKind.i64.wrap (((t.ins.length + t.outs.length : Nat) : Int) + (t.fwds.length : Int)) = ((t.ins.length + t.outs.length + t.fwds.length : Nat) : Int) := xW
      simp only [e1, e2]
      refine wC (fun h2 => ?_) (fun h2 => ?_)
      · (refine xG ?_)
        refine wC (fun h3 => ?_) (fun h3 => ?_)
        · (refine xG ?_)
          refine wC (fun h4 => ?_) (fun h4 => ?_)
          · (refine xG ?_)
            (refine wP _ _ (eq_op claimE rfl (t.claim.cv hc) (claim0.cv claim0_wf) rfl rfl) ?_; refine xZ ?_)
            refine wD (Ends.plain (.inr rfl) rfl ?_)
            rw [emptyB, h1, h2, h3, h4]; rfl
          · (refine xG ?_)
            refine wD (Ends.plain (.inr rfl) rfl ?_)
            rw [emptyB, h1, h2, h3, h4]; rfl
        · (refine xG ?_)
          refine wD (Ends.plain (.inr rfl) rfl ?_)
          rw [emptyB, h1, h2, h3]; rfl
      · (refine xG ?_)
        refine wD (Ends.plain (.inr rfl) rfl ?_)
        rw [emptyB, h1, h2]; rfl
    · (refine xG ?_)
      refine wD (Ends.plain (.inr rfl) rfl ?_)
      rw [emptyB, h1]; rfl
end Go.Proofs.YtnpkdoggfnlapaaGreatDoor
namespace Go.Proofs.YtnpkdoggfnlapaaGreatDoor
set_option maxRecDepth 100000
open Go.Sx
def idxG {E : Type} (q : E → Bool) (l : List E) : Int := if l.any q = true then ((l.findIdx q : Nat) : Int) else -1
theorem idxG_none {E : Type} {q : E → Bool} {l : List E} (h : l.any q = false) : idxG q l = -1 := by rw [idxG, if_neg (by rw [h]; simp)]
theorem idxG_at {E : Type} [Inhabited E] {q : E → Bool} {l : List E} {i : Nat} (hi : i < l.length) (h : (l.take i).any q = false) (hq : q (l.getD i default) = true) : idxG q l = (i : Int) := by
  have hm : l.getD i default ∈ l := by rw [List.getD_eq_getElem?_getD, List.getElem?_eq_getElem hi]; exact List.getElem_mem hi
  have h1 : l.any q = true := List.any_eq_true.2 ⟨_, hm, hq⟩
  rw [idxG, if_pos h1]
  congr 1
  refine (List.findIdx_eq hi).2 ⟨?_, fun j hj => ?_⟩
  · rw [List.getD_eq_getElem?_getD, List.getElem?_eq_getElem hi] at hq; exact hq
  · have : l[j] ∈ l.take i := by rw [List.mem_take_iff_getElem]; exact ⟨j, by omega, rfl⟩
    have := List.any_eq_false.1 h _ this
    simpa using this
theorem idxG_ge {E : Type} (q : E → Bool) (l : List E) : decide ((0 : Int) ≤ idxG q l) = l.any q := by
  unfold idxG
  cases h : l.any q with
  | true => rw [if_pos rfl]; simp
  | false => rw [if_neg (by simp)]; rfl
theorem any_take_succ' {E : Type} [Inhabited E] {p : E → Bool} {l : List E} {i : Nat} (hi : i < l.length) : (l.take (i + 1)).any p = ((l.take i).any p || p (l.getD i default)) := by
  rw [List.take_add_one, List.any_append]
  have : l[i]?.toList = [l.getD i default] := by rw [List.getElem?_eq_getElem hi, List.getD_eq_getElem?_getD, List.getElem?_eq_getElem hi]; rfl
  rw [this]; simp
def intsF (l : List Int) : Nat → List Value := fun i => [.int .i64 (l.getD i 0)]
def eqH (a x : H8) : Bool := decide (a = x)
theorem indexH_can (a : H8) (l : List H8) (hl : l.length ≤ 1000000000) : Reads Tryz.prog 194 [.row 8 l.length (keysF l), .plain a.x] [] (XV.int .i64 (idxG (eqH a) l)) := by
  refine Reads.of Tryz.T_ok Tryz.func194 rfl _ _ _ rfl rfl (fun C hC => ?_)
  (replace hC : C.n0 = 2 := hC; change Tri _ _ _ ⟨_, _, 2⟩ _)
  (refine Tri.cut 1 Tryz.mixed Tryz.T_ok ?_; refine xZ ?_)
  refine wD <| cutG <| Tri.seq ?_
  (refine Tri.cut 1 Tryz.mixed Tryz.T_ok ?_; refine xZ ?_)
  refine wD <| cutG <| Tri.block ?_
  refine Tri.loop (α := { i : Nat // i ≤ l.length ∧ (l.take i).any (eqH a) = false }) (fun i => ⟨[some (XV.sv (.slc 0 8 0 l.length)), none, none, some (XV.sv (.ptr 2 0 0 0)), none, none, none, some (XV.int .i64 l.length), some (XV.int .i64 i.1)] ++ List.replicate 10 none, [(0, .ro 8 l.length (keysF l)), (2, .cells 29 (a.cells.map .raw))], 3⟩) (fun i => l.length - i.1) ⟨0, Nat.zero_le _, by simp⟩ ?_ ?_
  · ((try dsimp only); refine Ent.renC [0, 1, 2] hC ?_ ?_ <;> repeat' (first | exact trivial | exact rfl | exact ⟨_, rfl, rfl, rfl, Nat.le_refl _, fun _ _ => rfl⟩ | exact ⟨_, rfl, rfl, rfl, fun _ _ => rfl⟩ | exact ⟨_, rfl, rfl, rfl⟩ | exact ⟨_, rfl, rfl⟩ | refine ⟨_, rfl, rfl, rfl, by omega, fun k hk => ?_⟩ | refine ⟨?_, ?_⟩ | fail))
  rintro ⟨i, hi, ha⟩
  dsimp only
  (refine Tri.cut 2 Tryz.mixed Tryz.T_ok ?_; refine xZ ?_)
  refine wC (fun h1 => ?_) (fun h1 => ?_)
  · (refine xG ?_)
    have h1' : i < l.length := xW
    have hs := any_take_succ' (p := eqH a) h1'
    have hw : IntKind.i64.wrap ((i : Int) + 1) = ((i + 1 : Nat) : Int) := xW
    refine wD <| cutG <| Tri.seq <| Tri.block <| Tri.of Tryz.mixed Tryz.T_ok ?_
    (refine xB ?_)
    (repeat (refine wN ?_ ?_; exact xW; refine xG ?_))
    simp only [Nat.zero_add, Int.toNat_natCast]
    (refine wP _ _ (eq_op hashE rfl a (l.getD i default) rfl rfl) ?_; refine xZ ?_)
    refine wC (fun h2 => ?_) (fun h2 => ?_)
    · (refine xG ?_)
      refine wD <| blockR <| cutR <| loopR <| blockR <| cutR <| Ends.plain (.inr rfl) rfl ?_
      rw [idxG_at h1' ha h2]
    · (refine xG ?_)
      refine wD <| blockN <| cutG <| Tri.of Tryz.mixed Tryz.T_ok ?_
      (refine xB ?_)
      refine wD <| loopN ⟨⟨i + 1, h1', by rw [hs, ha, Bool.false_or]; exact h2⟩, by dsimp only; omega, ?_⟩
      rw [hw]
      ((try dsimp only); refine Ent.renC [0, 1, 2] hC ?_ ?_ <;> repeat' (first | exact trivial | exact rfl | exact ⟨_, rfl, rfl, rfl, Nat.le_refl _, fun _ _ => rfl⟩ | exact ⟨_, rfl, rfl, rfl, fun _ _ => rfl⟩ | exact ⟨_, rfl, rfl, rfl⟩ | exact ⟨_, rfl, rfl⟩ | refine ⟨_, rfl, rfl, rfl, by omega, fun k hk => ?_⟩ | refine ⟨?_, ?_⟩ | fail))
  · (refine xG ?_)
    have h1' : i = l.length := xW
    subst h1'
    rw [List.take_length] at ha
    refine wD <| cutE <| loopX <| blockX <| cutG <| Tri.of Tryz.mixed Tryz.T_ok ?_
    (refine xB ?_)
    exact wD (Ends.plain (.inr rfl) rfl (by rw [idxG_none ha]))
theorem containsH_can (a : H8) (l : List H8) (hl : l.length ≤ 1000000000) : Reads Tryz.prog 160 [.row 8 l.length (keysF l), .plain a.x] [] (XV.bool (l.any (eqH a))) := by
  refine Reads.of Tryz.T_ok Tryz.func160 rfl _ _ _ rfl rfl (fun C hC => ?_)
  (replace hC : C.n0 = 2 := hC; change Tri _ _ _ ⟨_, _, 2⟩ _)
  refine Tri.of Tryz.mixed Tryz.T_ok ?_
  (refine xB ?_)
  (apply wP; exact (call_op rfl (entersB_of Tryz.func194 (by kernel_rfl)) rfl ((indexH_can a l hl).at [0] ⟨lend_ro0 rfl rfl, lend_plain rfl, trivial⟩ trivial)); refine xZ ?_)
  exact wD (Ends.plain (.inr rfl) rfl (by rw [← idxG_ge]))
def keyAt (l : List H8) (i : Nat) : Bool := !(zeroB (l.getD i default)) && !((l.take i).any (eqH (l.getD i default)))
def keysOK (l : List H8) : Bool := (List.range l.length).all (keyAt l)
def parN (p : ParM) : Bool := !(decide ((p.keys.length : Int) < 1)) && (!(decide (5 < (p.keys.length : Int))) && (!(decide (p.need < 1)) && !(decide ((p.keys.length : Int) < p.need))))
def parT (p : ParM) : Bool := decide (2 ≤ p.len) && (decide (p.len ≤ 64) && (decide (1 ≤ p.win) && decide (p.win ≤ p.len)))
def parB (p : ParM) : Bool := parN p && (keysOK p.keys && parT p)
def parV (p : ParM) : List SV := .raw (.int .i64 p.len) :: .raw (.int .i64 p.win) :: .raw (.int .i64 p.need) :: [.slc 0 8 0 p.keys.length]
def qmayM (p : ParM) : Mem := [(0, .ro 8 p.keys.length (keysF p.keys)), (1, .cells 40 (parV p))]
set_option maxHeartbeats 2000000 in
theorem qmay_can (p : ParM) (hl : p.keys.length ≤ 1000000000) : Reads Tryz.prog 116 [.box p.ac] [] (XV.bool (parB p)) := by
  refine Reads.of Tryz.T_ok Tryz.func116 rfl _ _ _ rfl rfl (fun C hC => ?_)
  (replace hC : C.n0 = 1 := hC; change Tri _ _ _ ⟨_, _, 1⟩ _)
  (refine Tri.cut 3 Tryz.mixed Tryz.T_ok ?_; refine xZ ?_)
  have no : parN p = false → XV.bool false = XV.bool (parB p) := fun h => by rw [parB, h, Bool.false_and]
  refine wC (fun h1 => ?_) (fun h1 => ?_)
  · (refine xG ?_)
    exact wD <| cutR <| Ends.plain (.inr rfl) rfl (no (by rw [parN, h1]; rfl))
  (refine xG ?_)
  refine wC (fun h2 => ?_) (fun h2 => ?_)
  · (refine xG ?_)
    exact wD <| cutR <| Ends.plain (.inr rfl) rfl (no (by rw [parN, h1, h2]; rfl))
  (refine xG ?_)
  refine wC (fun h3 => ?_) (fun h3 => ?_)
  · (refine xG ?_)
    exact wD <| cutR <| Ends.plain (.inr rfl) rfl (no (by rw [parN, h1, h2, h3]; rfl))
  (refine xG ?_)
  refine wC (fun h4 => ?_) (fun h4 => ?_)
  · (refine xG ?_)
    exact wD <| cutR <| Ends.plain (.inr rfl) rfl (no (by rw [parN, h1, h2, h3, h4]; rfl))
  have hN : parN p = true := by rw [parN, h1, h2, h3, h4]; rfl
  (refine xG ?_)
  refine wD <| cutG <| Tri.seq ?_
  (refine Tri.cut 1 Tryz.mixed Tryz.T_ok ?_; refine xZ ?_)
  refine wD <| cutG <| Tri.block ?_
  refine Tri.loop (α := { i : Nat // i ≤ p.keys.length ∧ (List.range i).all (keyAt p.keys) = true }) (fun i => ⟨[none, some (XV.sv (.ptr 1 0 0 0))] ++ List.replicate 25 none ++ [some (XV.sv (.slc 0 8 0 p.keys.length)), some (XV.int .i64 p.keys.length), some (XV.int .i64 i.1)] ++ List.replicate 35 none, qmayM p, 2⟩) (fun i => p.keys.length - i.1) ⟨0, Nat.zero_le _, rfl⟩ ?_ ?_
  · unfold qmayM
    ((try dsimp only); refine Ent.renC [0, 1] hC ?_ ?_ <;> repeat' (first | exact trivial | exact rfl | exact ⟨_, rfl, rfl, rfl, Nat.le_refl _, fun _ _ => rfl⟩ | exact ⟨_, rfl, rfl, rfl, fun _ _ => rfl⟩ | exact ⟨_, rfl, rfl, rfl⟩ | exact ⟨_, rfl, rfl⟩ | refine ⟨_, rfl, rfl, rfl, by omega, fun k hk => ?_⟩ | refine ⟨?_, ?_⟩ | fail))
  rintro ⟨i, hi, ha⟩
  dsimp only
  unfold qmayM
  (refine Tri.cut 2 Tryz.mixed Tryz.T_ok ?_; refine xZ ?_)
  refine wC (fun h5 => ?_) (fun h5 => ?_)
  · (refine xG ?_)
    have h1' : i < p.keys.length := xW
    have hs := range_all_succ (keyAt p.keys) i
    have hw : IntKind.i64.wrap ((i : Int) + 1) = ((i + 1 : Nat) : Int) := xW
    have hlen : (p.keys.take i).length = i := by rw [List.length_take]; omega
    have bad : keyAt p.keys i = false → parB p = false := fun h => by rw [parB, hN, keysOK, range_all_false h1' h]; rfl
    refine wD <| cutG <| Tri.seq <| Tri.block <| Tri.of Tryz.mixed Tryz.T_ok ?_
    (refine xB ?_)
    (repeat (refine wN ?_ ?_; exact xW; refine xG ?_))
    simp only [Nat.zero_add, Int.toNat_natCast]
    (apply wP; exact (call_op rfl (entersB_of Tryz.func145 (by kernel_rfl)) rfl ((zero_can (p.keys.getD i default)).at [] ⟨lend_plain rfl, trivial⟩ trivial)); refine xZ ?_)
    refine wC (fun h2 => ?_) (fun h2 => ?_)
    · (refine xG ?_)
      refine wD <| blockR <| cutR <| loopR <| blockR <| cutR <| Ends.plain (.inr rfl) rfl ?_
      rw [bad (by rw [keyAt, h2]; rfl)]
    (refine xG ?_)
    (repeat (refine wN ?_ ?_; exact xW; refine xG ?_))
    simp only [Nat.zero_add, Int.toNat_natCast]
    (apply wP; exact (call_op rfl (entersB_of Tryz.func160 (by kernel_rfl)) rfl ((containsH_can (p.keys.getD i default) (p.keys.take i) (by rw [hlen]; omega)).at [0] ⟨by rw [hlen]; exact lend_ro rfl rfl (by omega) (fun j hj => by rw [Nat.zero_add]; exact congrArg H8.cells (getD_take hj)), lend_plain rfl, trivial⟩ trivial)); refine xZ ?_)
    refine wC (fun h3 => ?_) (fun h3 => ?_)
    · (refine xG ?_)
      refine wD <| blockR <| cutR <| loopR <| blockR <| cutR <| Ends.plain (.inr rfl) rfl ?_
      rw [bad (by rw [keyAt, h2, h3]; rfl)]
    · (refine xG ?_)
      refine wD <| blockN <| cutG <| Tri.of Tryz.mixed Tryz.T_ok ?_
      (refine xB ?_)
      refine wD <| loopN ⟨⟨i + 1, h1', by rw [hs, ha, keyAt, h2, h3]; rfl⟩, by dsimp only; omega, ?_⟩
      rw [hw]
      ((try dsimp only); refine Ent.renC [0, 1] hC ?_ ?_ <;> repeat' (first | exact trivial | exact rfl | exact ⟨_, rfl, rfl, rfl, Nat.le_refl _, fun _ _ => rfl⟩ | exact ⟨_, rfl, rfl, rfl, fun _ _ => rfl⟩ | exact ⟨_, rfl, rfl, rfl⟩ | exact ⟨_, rfl, rfl⟩ | refine ⟨_, rfl, rfl, rfl, by omega, fun k hk => ?_⟩ | refine ⟨?_, ?_⟩ | fail))
  · (refine xG ?_)
    have h1' : i = p.keys.length := xW
    subst h1'
    have hk : parB p = parT p := by rw [parB, hN, keysOK, ha, Bool.true_and, Bool.true_and]
    refine wD <| cutE <| loopX <| blockX <| cutG <| Tri.of Tryz.mixed Tryz.T_ok ?_
    rw [hk]
    (refine xB ?_)
    refine wC (fun k1 => ?_) (fun k1 => ?_)
    · (refine xG ?_)
      refine wC (fun k2 => ?_) (fun k2 => ?_)
      · (refine xG ?_)
        refine wC (fun k3 => ?_) (fun k3 => ?_)
        · (refine xG ?_)
          exact wD (Ends.plain (.inr rfl) rfl (by rw [parT, k1, k2, k3]; rfl))
        · (refine xG ?_)
          exact wD (Ends.plain (.inr rfl) rfl (by rw [parT, k1, k2, k3]; rfl))
      · (refine xG ?_)
        exact wD (Ends.plain (.inr rfl) rfl (by rw [parT, k1, k2]; rfl))
    · (refine xG ?_)
      exact wD (Ends.plain (.inr rfl) rfl (by rw [parT, k1]; rfl))
end Go.Proofs.YtnpkdoggfnlapaaGreatDoor
namespace Go.Proofs.YtnpkdoggfnlapaaGreatDoor
set_option maxRecDepth 100000
open Go.Sx
structure SideM where
  par : ParM
  made : Int
  bal : Int
  fwd : Int
  mat : Int
  clm : Int
  ceased : Bool
  hgt : Int
  root : H8
  pend : Bool
  cert : CertM
  used : List Int
def side0 : SideM := ⟨par0, 0, 0, 0, 0, 0, false, 0, zeroH, false, cert0, []⟩
instance : Inhabited SideM := ⟨side0⟩
def SideM.ac (x : SideM) : List AC := x.par.ac ++ (iC x.made :: iC x.bal :: iC x.fwd :: iC x.mat :: iC x.clm :: .raw (.bool x.ceased) :: iC x.hgt :: (rC x.root.cells ++ (.raw (.bool x.pend) :: (x.cert.ac ++ [.row 1 x.used.length (intsF x.used)]))))
def sideCells (x : SideM) (k o s u : SV) : List SV := parCells x.par k ++ (.raw (.int .i64 x.made) :: .raw (.int .i64 x.bal) :: .raw (.int .i64 x.fwd) :: .raw (.int .i64 x.mat) :: .raw (.int .i64 x.clm) :: .raw (.bool x.ceased) :: .raw (.int .i64 x.hgt) :: (x.root.cells.map .raw ++ (.raw (.bool x.pend) :: (certCells x.cert o s ++ [u]))))
theorem lend_side {M : Mem} {rd : List Nat} {x : SideM} {k o s u : SV} (h1 : Lends M rd (.one k) (.row 8 x.par.keys.length (keysF x.par.keys))) (h2 : Lends M rd (.one o) (.row 9 x.cert.outs.length (outsF x.cert.outs))) (h3 : Lends M rd (.one s) (.row 282 x.cert.sigs.length (sgdsF x.cert.sigs)))
    (h4 : Lends M rd (.one u) (.row 1 x.used.length (intsF x.used))) : Lends M rd (.agg (sideCells x k o s u)) (.box x.ac) := by
  refine lend_box ⟨rfl, rfl, rfl, h1, rfl, rfl, rfl, rfl, rfl, rfl, rfl, ?_⟩
  refine LendsC.raws ?_ _
  refine ⟨rfl, ?_⟩
  exact lend_cert_cells h2 h3 ⟨h4, trivial⟩
structure SideM.Sized (x : SideM) : Prop where
  keys : x.par.keys.length ≤ 1000000
  outs : x.cert.outs.length ≤ 1000000
  sigs : x.cert.sigs.length ≤ 1000000
  used : x.used.length ≤ 1000000
theorem SideM.ac_len (x : SideM) : x.ac.length = 42 := rfl
theorem SideM.ac_one (x : SideM) : x.ac.all AC.one = true := rfl
theorem boxed_append {p : Nat} {l : List Chunk} : ∀ {a : List SV} {b : List AC} {a' : List SV} {b' : List AC}, Boxed p l a b → Boxed p l a' b' → Boxed p l (a ++ a') (b ++ b')
  | [], [], _, _, _, h => h
  | _ :: _, .raw _ :: _, _, _, ⟨h1, h2⟩, h => ⟨h1, boxed_append h2 h⟩
  | _ :: _, .row _ _ _ :: _, _, _, ⟨h1, h2⟩, h => ⟨h1, boxed_append h2 h⟩
  | [], _ :: _, _, _, h, _ => h.elim
  | _ :: _, [], _, _, h, _ => h.elim
theorem boxed_raws {p : Nat} {l : List Chunk} : ∀ vs : List Value, Boxed p l (vs.map .raw) (rC vs)
  | [] => trivial
  | _ :: vs => ⟨rfl, boxed_raws vs⟩
theorem boxed_side {p : Nat} {l : List Chunk} {x : SideM} {k o s u : SV} (hk : Boxed p l [k] [.row 8 x.par.keys.length (keysF x.par.keys)]) (ho : Boxed p l [o] [.row 9 x.cert.outs.length (outsF x.cert.outs)]) (hs : Boxed p l [s] [.row 282 x.cert.sigs.length (sgdsF x.cert.sigs)])
    (hu : Boxed p l [u] [.row 1 x.used.length (intsF x.used)]) : Boxed p l (sideCells x k o s u) x.ac := by
  refine ⟨rfl, rfl, rfl, hk.1, rfl, rfl, rfl, rfl, rfl, rfl, rfl, ?_⟩
  refine boxed_append (boxed_raws _) ?_
  refine ⟨rfl, rfl, rfl, rfl, ?_⟩
  show Boxed p l ((x.cert.fin.cells.map .raw ++ (x.cert.root.cells.map .raw ++ [o, s])) ++ [u]) ((rC x.cert.fin.cells ++ (rC x.cert.root.cells ++ [AC.row 9 x.cert.outs.length (outsF x.cert.outs), .row 282 x.cert.sigs.length (sgdsF x.cert.sigs)])) ++ [AC.row 1 x.used.length (intsF x.used)])
  rw [List.append_assoc, List.append_assoc, List.append_assoc, List.append_assoc]
  exact boxed_append (boxed_raws _) (boxed_append (boxed_raws _) ⟨ho.1, hs.1, hu.1, trivial⟩)
end Go.Proofs.YtnpkdoggfnlapaaGreatDoor
namespace Go.Proofs.YtnpkdoggfnlapaaGreatDoor
set_option maxRecDepth 100000
open Go.Sx
theorem DeepP_congr {e sz n : Nat} {F F' : Nat → List AC} (h : ∀ i, i < n → F i = F' i) : DeepP e sz n F = DeepP e sz n F' := by
  unfold DeepP
  congr 1
  funext w b s O
  refine propext ⟨?_, ?_⟩
  · rintro ⟨h1, h2, h3, h4, arr, h5, h6, h7⟩
    refine ⟨h1, h2, h3, h4, arr, h5, h6, fun i hi => ?_⟩
    rw [← h i hi]; exact h7 i hi
  · rintro ⟨h1, h2, h3, h4, arr, h5, h6, h7⟩
    refine ⟨h1, h2, h3, h4, arr, h5, h6, fun i hi => ?_⟩
    rw [h i hi]; exact h7 i hi
def regF (L : List SideM) : Nat → List AC := fun i => (L.getD i default).ac
def regM (tS tE : TypeId) : List SideM → Mem
  | [] => [(0, .cells tS [.raw (.slice none 0 0)])]
  | x :: r => [(0, .cells tS [.slc 1 42 0 (x :: r).length]), (1, .abs (DeepP tE 42 (x :: r).length (regF (x :: r))))]
def regP (tS tE : TypeId) (L : List SideM) : AbsP := packP (regM tS tE L) True
theorem regM_pos {tS tE : TypeId} {L : List SideM} (h : 0 < L.length) : regM tS tE L = [(0, .cells tS [.slc 1 42 0 L.length]), (1, .abs (DeepP tE 42 L.length (regF L)))] := by
  cases L with
  | nil => cases h
  | cons x r => rfl
section
variable {P : Program} {C : Ctx} {cd : Code} {slots : List (Option XV)} {mem : Mem} {nx : Nat} {Q : Exit → St → Prop}
theorem Reg.opensD (tS tE : TypeId) (L : List SideM) (c : Nat) (h0 : 0 < L.length) (hc : mem.get c = some (.abs (regP tS tE L)))
    (h : Tri P C cd ⟨slots, (c, .cells tS [.slc (nx + 1) 42 0 L.length]) :: (nx + 1, .abs (DeepP tE 42 L.length (regF L))) :: mem.del c, nx + 2⟩ Q) : Tri P C cd ⟨slots, mem, nx⟩ Q := by
  refine Tri.opens (M := [(0, .cells tS [.slc 1 42 0 L.length]), (1, .abs (DeepP tE 42 L.length (regF L)))]) (m := 2) (inv := True) (c := c) ?_ rfl fun _ => h
  rw [← regM_pos h0]; exact hc
theorem Reg.opens0 (tS tE : TypeId) (c : Nat) (hc : mem.get c = some (.abs (regP tS tE [])))
    (h : Tri P C cd ⟨slots, (c, .cells tS [.raw (.slice none 0 0)]) :: mem.del c, nx + 1⟩ Q) : Tri P C cd ⟨slots, mem, nx⟩ Q :=
  Tri.opens (M := [(0, .cells tS [.raw (.slice none 0 0)])]) (m := 1) (inv := True) (c := c) hc rfl fun _ => h
theorem Reg.opens (tS tE : TypeId) (L : List SideM) (c : Nat) (h0 : 0 < L.length) (hc : mem.get c = some (.abs (regP tS tE L))) (hcn : c < nx)
    (h : ∀ ad : Nat → Nat → Option Addr × Nat, Tri P C cd ⟨slots, (nx + 1, .vec tE 42 L.length fun i => fillA 0 (regF L i) (ad i)) :: (nx + 2, .abs (PartsO L.length (regF L) ad)) :: (c, .cells tS [.slc (nx + 1) 42 0 L.length]) :: (mem.del c).del (nx + 1), nx + 3⟩ Q) : Tri P C cd ⟨slots, mem, nx⟩ Q := by
  refine Reg.opensD tS tE L c h0 hc (Tri.openDeep (c := nx + 1) (e := tE) (sz := 42) (n := L.length) (F := regF L) ?_ fun ad => ?_)
  · simp only [Mem.get, nbeq]
    rw [show decide (c = nx + 1) = false from decide_eq_false (by omega)]
    simp
  · have e : Mem.del ((c, .cells tS [.slc (nx + 1) 42 0 L.length]) :: (nx + 1, .abs (DeepP tE 42 L.length (regF L))) :: mem.del c) (nx + 1) = (c, .cells tS [.slc (nx + 1) 42 0 L.length]) :: (mem.del c).del (nx + 1) := by
      simp only [Mem.del, nbeq]
      rw [show decide (c = nx + 1) = false from decide_eq_false (by omega)]
      simp
    rw [e]
    exact h ad
theorem Reg.shuts (tS tE : TypeId) (L : List SideM) (c : Nat) {i1 m n : Nat} {F : Nat → List AC} (h0 : 0 < L.length) (k0 : mem.get c = some (.cells tS [.slc i1 42 0 m])) (k1 : mem.get i1 = some (.abs (DeepP tE 42 n F))) (hids : Nat.beq c i1 = false) (hm : m = L.length) (hn : n = L.length) (hF : ∀ i, i < n → F i = regF L i) :
    Ent C ⟨slots, mem, nx⟩ ⟨slots, (c, .abs (regP tS tE L)) :: mem.dels [c, i1], nx⟩ := by
  subst hm
  subst hn
  rw [DeepP_congr hF] at k1
  unfold regP
  rw [regM_pos h0]
  exact Ent.shut2 (S := ⟨slots, mem, nx⟩) (M := [(0, .cells tS [.slc 1 42 0 L.length]), (1, .abs (DeepP tE 42 L.length (regF L)))]) (inv := True) hids trivial rfl rfl rfl k0 k1 rfl ⟨rfl, rfl⟩ rfl
theorem Reg.shuts0 (tS tE : TypeId) (c : Nat) (k0 : mem.get c = some (.cells tS [.raw (.slice none 0 0)])) : Ent C ⟨slots, mem, nx⟩ ⟨slots, (c, .abs (regP tS tE [])) :: mem.dels [c], nx⟩ :=
  Ent.shut (S := ⟨slots, mem, nx⟩) (c := c) (ids := [c]) (M := [(0, .cells tS [.raw (.slice none 0 0)])]) (inv := True) (by simp) rfl trivial ⟨_, k0, rfl⟩ rfl (fun j i hj => by
    match j with
    | 0 => simp at hj; subst hj; exact ⟨_, _, rfl, k0, rfl, rfl⟩
    | j + 1 => simp at hj)
theorem Reg.shutsO (tS tE : TypeId) (L L' : List SideM) (c : Nat) {i1 q m n : Nat} {G : Nat → List Value} {ad : Nat → Nat → Option Addr × Nat} (h0 : 0 < L'.length) (k0 : mem.get c = some (.cells tS [.slc i1 42 0 m])) (k1 : mem.get i1 = some (.vec tE 42 n G)) (k2 : mem.get q = some (.abs (PartsO n (regF L) ad)))
    (hids : (Nat.beq c i1 || Nat.beq c q || Nat.beq i1 q) = false) (hm : m = L'.length) (hn : n = L'.length) (hG : ∀ i, i < n → G i = fillA 0 (regF L' i) (ad i)) (hF : ∀ i, i < n → ∀ (j : Nat) (x : AC), (regF L' i)[j]? = some x → (∃ u, x = AC.raw u) ∨ (regF L i)[j]? = some x) :
    Ent C ⟨slots, mem, nx⟩ ⟨slots, (c, .abs (regP tS tE L')) :: Mem.dels ((i1, .abs (DeepP tE 42 n (regF L'))) :: mem.dels [i1, q]) [c, i1], nx⟩ := by
  simp only [Bool.or_eq_false_iff, nbeq, decide_eq_false_iff_not] at hids
  obtain ⟨⟨d1, d2⟩, d3⟩ := hids
  refine (Ent.shutDeep (S := ⟨slots, mem, nx⟩) (F := regF L') (ad := ad) [q] k1 (by omega) (Nat.le_refl _) (by simpa using d3) hG (fun i hi j x hx => ?_)).trans ?_
  · rcases hF i hi j x hx with h | h
    · exact .inl h
    · exact Backed.old (by simp) k2 hi h
  · refine Reg.shuts tS tE L' c h0 ?_ ?_ (by simpa [nbeq] using d1) hm hn fun _ _ => rfl
    · simp only [Mem.get, nbeq, Mem.get_dels]
      rw [show decide (i1 = c) = false from decide_eq_false (fun e => d1 e.symm)]
      simp only [cond_false]
      rw [if_neg (by simp only [List.mem_cons, List.not_mem_nil, or_false, not_or]; exact ⟨d1, d2⟩)]
      exact k0
    · simp [Mem.get, nbeq]
end
theorem lend_rec {M : Mem} {rd : List Nat} {q n i : Nat} {L : List SideM} {ad : Nat → Nat → Option Addr × Nat} (hm : M.get q = some (.abs (PartsO n (regF L) ad))) (hrd : nmem q rd = true) (hi : i < n) : Lends M rd (.agg ((fillA 0 (regF L i) (ad i)).map .raw)) (.box (L.getD i default).ac) :=
  lend_side (x := L.getD i default) (k := .raw (.slice (ad i 3).1 _ (ad i 3).2)) (o := .raw (.slice (ad i 39).1 _ (ad i 39).2)) (s := .raw (.slice (ad i 40).1 _ (ad i 40).2)) (u := .raw (.slice (ad i 41).1 _ (ad i 41).2))
    (lend_partO (F := regF L) (j := 3) hm hrd hi rfl) (lend_partO (F := regF L) (j := 39) hm hrd hi rfl) (lend_partO (F := regF L) (j := 40) hm hrd hi rfl) (lend_partO (F := regF L) (j := 41) hm hrd hi rfl)
theorem regF_set {L : List SideM} {i : Nat} (hi : i < L.length) (x : SideM) : (fun k => if k = i then x.ac else regF L k) = regF (L.set i x) := by
  funext k
  unfold regF
  by_cases h : k = i
  · subst h
    rw [if_pos rfl, List.getD_eq_getElem?_getD, List.getElem?_set_self hi]; rfl
  · rw [if_neg h, List.getD_eq_getElem?_getD, List.getD_eq_getElem?_getD, List.getElem?_set_ne (fun e => h e.symm)]
theorem regF_snoc {L : List SideM} {x : SideM} {k : Nat} (hk : k < L.length + 1) : (if k < L.length then regF L k else x.ac) = regF (L ++ [x]) k := by
  unfold regF
  by_cases h : k < L.length
  · rw [if_pos h, List.getD_eq_getElem?_getD, List.getD_eq_getElem?_getD, List.getElem?_append_left h]
  · obtain rfl : k = L.length := by omega
    rw [if_neg h]; simp
end Go.Proofs.YtnpkdoggfnlapaaGreatDoor
namespace Go.Proofs.YtnpkdoggfnlapaaGreatDoor
set_option maxRecDepth 100000
open Go.Sx
theorem cloneH_can (l : List H8) (hl : l.length ≤ 1000000) : Makes Tryz.prog 104 [.row 8 l.length (keysF l)] [] (XV.sv (.slc 0 8 0 l.length)) (.vec 29 8 l.length (keysF l)) := by
  refine Makes.of Tryz.T_ok Tryz.func104 rfl _ _ _ _ rfl rfl rfl rfl 1 (fun C hC => ?_)
  (replace hC : C.n0 = 1 := hC; change Tri _ _ _ ⟨_, _, 1⟩ _)
  (refine Tri.cut 1 Tryz.mixed Tryz.T_ok ?_; refine xZ ?_)
  refine wD <| cutG <| Tri.nilCases 0 rfl (fun h0 => ?_) (fun cap hcap => ?_)
  · obtain rfl : l = [] := List.length_eq_zero_iff.1 h0
    refine Tri.of Tryz.mixed Tryz.T_ok ?_
    (refine xB ?_)
    refine wD (Ends.made (S' := ⟨[none, none, some (XV.sv (.slc 1 8 0 0)), none, none, none, none, none], [(0, .ro 8 0 (keysF [])), (1, .vec 29 8 0 (keysF []))], 2⟩) (.inr rfl) ((Ent.nils (t := 2) rfl 29 8).trans ?_) rfl (Nat.le_refl _) rfl)
    ((try dsimp only); refine Ent.renC [0, 5] hC ?_ ?_ <;> repeat' (first | exact trivial | exact rfl | exact ⟨_, rfl, rfl, rfl, Nat.le_refl _, fun _ _ => rfl⟩ | exact ⟨_, rfl, rfl, rfl, fun _ _ => rfl⟩ | exact ⟨_, rfl, rfl, rfl⟩ | exact ⟨_, rfl, rfl⟩ | refine ⟨_, rfl, rfl, rfl, by omega, fun k hk => ?_⟩ | refine ⟨?_, ?_⟩ | fail))
    exact absurd hk (Nat.not_lt_zero _)
  · refine Tri.of Tryz.mixed Tryz.T_ok ?_
    (refine xB ?_)
    (refine wP _ _ (append_op Tryz.T_ok rfl rfl rfl rfl rfl [0, 4] (old_vec rfl rfl (Nat.le_refl _) rfl) (new_slar (lo := 0) rfl rfl rfl (Nat.zero_mul _).symm (by omega)) rfl (fun _ _ => rfl) (by simp only [maxLen]; omega) (by dsimp only; omega)) ?_; refine xZ ?_)
    simp only [Nat.zero_add]
    refine wD (Ends.made (S' := ⟨[none, none, some (XV.sv (.slc 1 8 0 l.length)), none, none, none, none, none], [(0, .ro 8 l.length (keysF l)), (1, .vec 29 8 l.length (keysF l))], 2⟩) (.inr rfl) ?_ rfl (Nat.le_refl _) rfl)
    ((try dsimp only); refine Ent.renC [0, 6] hC ?_ ?_ <;> repeat' (first | exact trivial | exact rfl | exact ⟨_, rfl, rfl, rfl, Nat.le_refl _, fun _ _ => rfl⟩ | exact ⟨_, rfl, rfl, rfl, fun _ _ => rfl⟩ | exact ⟨_, rfl, rfl, rfl⟩ | exact ⟨_, rfl, rfl⟩ | refine ⟨_, rfl, rfl, rfl, by omega, fun k hk => ?_⟩ | refine ⟨?_, ?_⟩ | fail))
theorem cloneO_can (l : List OutM) (hl : l.length ≤ 1000000) : Makes Tryz.prog 105 [.row 9 l.length (outsF l)] [] (XV.sv (.slc 0 9 0 l.length)) (.vec 59 9 l.length (outsF l)) := by
  refine Makes.of Tryz.T_ok Tryz.func105 rfl _ _ _ _ rfl rfl rfl rfl 1 (fun C hC => ?_)
  (replace hC : C.n0 = 1 := hC; change Tri _ _ _ ⟨_, _, 1⟩ _)
  (refine Tri.cut 1 Tryz.mixed Tryz.T_ok ?_; refine xZ ?_)
  refine wD <| cutG <| Tri.nilCases 0 rfl (fun h0 => ?_) (fun cap hcap => ?_)
  · obtain rfl : l = [] := List.length_eq_zero_iff.1 h0
    refine Tri.of Tryz.mixed Tryz.T_ok ?_
    (refine xB ?_)
    refine wD (Ends.made (S' := ⟨[none, none, some (XV.sv (.slc 1 9 0 0)), none, none, none, none, none], [(0, .ro 9 0 (outsF [])), (1, .vec 59 9 0 (outsF []))], 2⟩) (.inr rfl) ((Ent.nils (t := 2) rfl 59 9).trans ?_) rfl (Nat.le_refl _) rfl)
    ((try dsimp only); refine Ent.renC [0, 5] hC ?_ ?_ <;> repeat' (first | exact trivial | exact rfl | exact ⟨_, rfl, rfl, rfl, Nat.le_refl _, fun _ _ => rfl⟩ | exact ⟨_, rfl, rfl, rfl, fun _ _ => rfl⟩ | exact ⟨_, rfl, rfl, rfl⟩ | exact ⟨_, rfl, rfl⟩ | refine ⟨_, rfl, rfl, rfl, by omega, fun k hk => ?_⟩ | refine ⟨?_, ?_⟩ | fail))
    exact absurd hk (Nat.not_lt_zero _)
  · refine Tri.of Tryz.mixed Tryz.T_ok ?_
    (refine xB ?_)
    (refine wP _ _ (append_op Tryz.T_ok rfl rfl rfl rfl rfl [0, 4] (old_vec rfl rfl (Nat.le_refl _) rfl) (new_slar (lo := 0) rfl rfl rfl (Nat.zero_mul _).symm (by omega)) rfl (fun _ _ => rfl) (by simp only [maxLen]; omega) (by dsimp only; omega)) ?_; refine xZ ?_)
    simp only [Nat.zero_add]
    refine wD (Ends.made (S' := ⟨[none, none, some (XV.sv (.slc 1 9 0 l.length)), none, none, none, none, none], [(0, .ro 9 l.length (outsF l)), (1, .vec 59 9 l.length (outsF l))], 2⟩) (.inr rfl) ?_ rfl (Nat.le_refl _) rfl)
    ((try dsimp only); refine Ent.renC [0, 6] hC ?_ ?_ <;> repeat' (first | exact trivial | exact rfl | exact ⟨_, rfl, rfl, rfl, Nat.le_refl _, fun _ _ => rfl⟩ | exact ⟨_, rfl, rfl, rfl, fun _ _ => rfl⟩ | exact ⟨_, rfl, rfl, rfl⟩ | exact ⟨_, rfl, rfl⟩ | refine ⟨_, rfl, rfl, rfl, by omega, fun k hk => ?_⟩ | refine ⟨?_, ?_⟩ | fail))
theorem cloneS_can (l : List SgdM) (hl : l.length ≤ 1000000) : Makes Tryz.prog 106 [.row 282 l.length (sgdsF l)] [] (XV.sv (.slc 0 282 0 l.length)) (.vec 192 282 l.length (sgdsF l)) := by
  refine Makes.of Tryz.T_ok Tryz.func106 rfl _ _ _ _ rfl rfl rfl rfl 1 (fun C hC => ?_)
  (replace hC : C.n0 = 1 := hC; change Tri _ _ _ ⟨_, _, 1⟩ _)
  (refine Tri.cut 1 Tryz.mixed Tryz.T_ok ?_; refine xZ ?_)
  refine wD <| cutG <| Tri.nilCases 0 rfl (fun h0 => ?_) (fun cap hcap => ?_)
  · obtain rfl : l = [] := List.length_eq_zero_iff.1 h0
    refine Tri.of Tryz.mixed Tryz.T_ok ?_
    (refine xB ?_)
    refine wD (Ends.made (S' := ⟨[none, none, some (XV.sv (.slc 1 282 0 0)), none, none, none, none, none], [(0, .ro 282 0 (sgdsF [])), (1, .vec 192 282 0 (sgdsF []))], 2⟩) (.inr rfl) ((Ent.nils (t := 2) rfl 192 282).trans ?_) rfl (Nat.le_refl _) rfl)
    ((try dsimp only); refine Ent.renC [0, 5] hC ?_ ?_ <;> repeat' (first | exact trivial | exact rfl | exact ⟨_, rfl, rfl, rfl, Nat.le_refl _, fun _ _ => rfl⟩ | exact ⟨_, rfl, rfl, rfl, fun _ _ => rfl⟩ | exact ⟨_, rfl, rfl, rfl⟩ | exact ⟨_, rfl, rfl⟩ | refine ⟨_, rfl, rfl, rfl, by omega, fun k hk => ?_⟩ | refine ⟨?_, ?_⟩ | fail))
    exact absurd hk (Nat.not_lt_zero _)
  · refine Tri.of Tryz.mixed Tryz.T_ok ?_
    (refine xB ?_)
    (refine wP _ _ (append_op Tryz.T_ok rfl rfl rfl rfl rfl [0, 4] (old_vec rfl rfl (Nat.le_refl _) rfl) (new_slar (lo := 0) rfl rfl rfl (Nat.zero_mul _).symm (by omega)) rfl (fun _ _ => rfl) (by simp only [maxLen]; omega) (by dsimp only; omega)) ?_; refine xZ ?_)
    simp only [Nat.zero_add]
    refine wD (Ends.made (S' := ⟨[none, none, some (XV.sv (.slc 1 282 0 l.length)), none, none, none, none, none], [(0, .ro 282 l.length (sgdsF l)), (1, .vec 192 282 l.length (sgdsF l))], 2⟩) (.inr rfl) ?_ rfl (Nat.le_refl _) rfl)
    ((try dsimp only); refine Ent.renC [0, 6] hC ?_ ?_ <;> repeat' (first | exact trivial | exact rfl | exact ⟨_, rfl, rfl, rfl, Nat.le_refl _, fun _ _ => rfl⟩ | exact ⟨_, rfl, rfl, rfl, fun _ _ => rfl⟩ | exact ⟨_, rfl, rfl, rfl⟩ | exact ⟨_, rfl, rfl⟩ | refine ⟨_, rfl, rfl, rfl, by omega, fun k hk => ?_⟩ | refine ⟨?_, ?_⟩ | fail))
theorem cloneI_can (l : List Int) (hl : l.length ≤ 1000000) : Makes Tryz.prog 107 [.row 1 l.length (intsF l)] [] (XV.sv (.slc 0 1 0 l.length)) (.vec 3 1 l.length (intsF l)) := by
  refine Makes.of Tryz.T_ok Tryz.func107 rfl _ _ _ _ rfl rfl rfl rfl 1 (fun C hC => ?_)
  (replace hC : C.n0 = 1 := hC; change Tri _ _ _ ⟨_, _, 1⟩ _)
  (refine Tri.cut 1 Tryz.mixed Tryz.T_ok ?_; refine xZ ?_)
  refine wD <| cutG <| Tri.nilCases 0 rfl (fun h0 => ?_) (fun cap hcap => ?_)
  · obtain rfl : l = [] := List.length_eq_zero_iff.1 h0
    refine Tri.of Tryz.mixed Tryz.T_ok ?_
    (refine xB ?_)
    refine wD (Ends.made (S' := ⟨[none, none, some (XV.sv (.slc 1 1 0 0)), none, none, none, none, none], [(0, .ro 1 0 (intsF [])), (1, .vec 3 1 0 (intsF []))], 2⟩) (.inr rfl) ((Ent.nils (t := 2) rfl 3 1).trans ?_) rfl (Nat.le_refl _) rfl)
    ((try dsimp only); refine Ent.renC [0, 5] hC ?_ ?_ <;> repeat' (first | exact trivial | exact rfl | exact ⟨_, rfl, rfl, rfl, Nat.le_refl _, fun _ _ => rfl⟩ | exact ⟨_, rfl, rfl, rfl, fun _ _ => rfl⟩ | exact ⟨_, rfl, rfl, rfl⟩ | exact ⟨_, rfl, rfl⟩ | refine ⟨_, rfl, rfl, rfl, by omega, fun k hk => ?_⟩ | refine ⟨?_, ?_⟩ | fail))
    exact absurd hk (Nat.not_lt_zero _)
  · refine Tri.of Tryz.mixed Tryz.T_ok ?_
    (refine xB ?_)
    (refine wP _ _ (append_op Tryz.T_ok rfl rfl rfl rfl rfl [0, 4] (old_vec rfl rfl (Nat.le_refl _) rfl) (new_slar (lo := 0) rfl rfl rfl (Nat.zero_mul _).symm (by omega)) rfl (fun _ _ => rfl) (by simp only [maxLen]; omega) (by dsimp only; omega)) ?_; refine xZ ?_)
    simp only [Nat.zero_add]
    refine wD (Ends.made (S' := ⟨[none, none, some (XV.sv (.slc 1 1 0 l.length)), none, none, none, none, none], [(0, .ro 1 l.length (intsF l)), (1, .vec 3 1 l.length (intsF l))], 2⟩) (.inr rfl) ?_ rfl (Nat.le_refl _) rfl)
    ((try dsimp only); refine Ent.renC [0, 6] hC ?_ ?_ <;> repeat' (first | exact trivial | exact rfl | exact ⟨_, rfl, rfl, rfl, Nat.le_refl _, fun _ _ => rfl⟩ | exact ⟨_, rfl, rfl, rfl, fun _ _ => rfl⟩ | exact ⟨_, rfl, rfl, rfl⟩ | exact ⟨_, rfl, rfl⟩ | refine ⟨_, rfl, rfl, rfl, by omega, fun k hk => ?_⟩ | refine ⟨?_, ?_⟩ | fail))
def sideRows (x : SideM) : List Chunk := [.vec 29 8 x.par.keys.length (keysF x.par.keys), .vec 59 9 x.cert.outs.length (outsF x.cert.outs), .vec 192 282 x.cert.sigs.length (sgdsF x.cert.sigs), .vec 3 1 x.used.length (intsF x.used)]
def sideIns (x : SideM) (p : Nat) : List SV := sideCells x (.ins p 4 0 x.par.keys.length) (.ins p 4 1 x.cert.outs.length) (.ins p 4 2 x.cert.sigs.length) (.ins p 4 3 x.used.length)
theorem boxed_ins (x : SideM) (p : Nat) : Boxed p (sideRows x) (sideIns x p) x.ac :=
  boxed_side ⟨.inr ⟨0, _, _, rfl, rfl, Nat.le_refl _, rfl⟩, trivial⟩ ⟨.inr ⟨1, _, _, rfl, rfl, Nat.le_refl _, rfl⟩, trivial⟩ ⟨.inr ⟨2, _, _, rfl, rfl, Nat.le_refl _, rfl⟩, trivial⟩ ⟨.inr ⟨3, _, _, rfl, rfl, Nat.le_refl _, rfl⟩, trivial⟩
set_option maxHeartbeats 4000000 in
theorem copied_can (x : SideM) (hx : x.Sized) : Makes Tryz.prog 56 [.box x.ac] [] (.cv (.agg (sideIns x 0))) (.abs (PackP (sideRows x))) := by
  have h1 := hx.keys
  have h2 := hx.outs
  have h3 := hx.sigs
  have h4 := hx.used
  refine Makes.of Tryz.T_ok Tryz.func56 rfl _ _ _ _ rfl rfl rfl rfl 34 (fun C hC => ?_)
  (replace hC : C.n0 = 4 := hC; change Tri _ _ _ ⟨_, _, 4⟩ _)
  refine Tri.of Tryz.mixed Tryz.T_ok ?_
  (refine xB ?_)
  (apply wP; exact (call_op rfl (entersB_of Tryz.func104 (by kernel_rfl)) rfl ((cloneH_can x.par.keys h1).at [0] ⟨lend_ro0 rfl rfl, trivial⟩ trivial)); refine xZ ?_)
  (apply wP; exact (call_op rfl (entersB_of Tryz.func105 (by kernel_rfl)) rfl ((cloneO_can x.cert.outs h2).at [1] ⟨lend_ro0 rfl rfl, trivial⟩ trivial)); refine xZ ?_)
  (apply wP; exact (call_op rfl (entersB_of Tryz.func106 (by kernel_rfl)) rfl ((cloneS_can x.cert.sigs h3).at [2] ⟨lend_ro0 rfl rfl, trivial⟩ trivial)); refine xZ ?_)
  (apply wP; exact (call_op rfl (entersB_of Tryz.func107 (by kernel_rfl)) rfl ((cloneI_can x.used h4).at [3] ⟨lend_ro0 rfl rfl, trivial⟩ trivial)); refine xZ ?_)
  refine wD (Ends.made (.inr rfl) (Ent.pack2 [9, 16, 23, 29] (sideRows x) (by decide) rfl rfl (fun j i ch hi hj => ?_)) rfl (Nat.le_of_ble_eq_true rfl) rfl)
  rcases j with _ | _ | _ | _ | j
  · cases hi; cases hj; exact ⟨_, rfl, ChLe.refl _ rfl⟩
  · cases hi; cases hj; exact ⟨_, rfl, ChLe.refl _ rfl⟩
  · cases hi; cases hj; exact ⟨_, rfl, ChLe.refl _ rfl⟩
  · cases hi; cases hj; exact ⟨_, rfl, ChLe.refl _ rfl⟩
  · cases hi
end Go.Proofs.YtnpkdoggfnlapaaGreatDoor
namespace Go.Proofs.YtnpkdoggfnlapaaGreatDoor
set_option maxRecDepth 100000
open Go.Sx
abbrev rgS : TypeId := 139
abbrev rgE : TypeId := 68
abbrev pReg (L : List SideM) : AbsP := regP rgS rgE L
def inB (L : List SideM) (i : Int) : Bool := decide (0 ≤ i) && decide (i < (L.length : Int))
theorem regIn_can (L : List SideM) (i : Int) : Acts Tryz.prog 55 (.abs (pReg L)) (.abs (pReg L)) [.plain (.one (.raw (.int .i64 i)))] [] (XV.bool (inB L i)) := by
  refine Acts.of Tryz.T_ok Tryz.func55 rfl _ _ _ _ _ rfl rfl rfl (fun C hC => ?_)
  (replace hC : C.n0 = 2 := hC; change Tri _ _ _ ⟨_, _, 2⟩ _)
  rcases L with _ | ⟨x, r⟩
  · refine Reg.opens0 rgS rgE 0 rfl (Tri.of Tryz.mixed Tryz.T_ok ?_)
    (refine xB ?_)
    refine wC (fun h1 => ?_) (fun h1 => ?_)
    · (refine xG ?_)
      exact wD (Ends.shutN (.inr rfl) (Reg.shuts0 rgS rgE 0 rfl) rfl rfl (by rw [inB, h1]; rfl))
    · (refine xG ?_)
      exact wD (Ends.shutN (.inr rfl) (Reg.shuts0 rgS rgE 0 rfl) rfl rfl (by rw [inB, h1]; rfl))
  · refine Reg.opensD rgS rgE (x :: r) 0 (Nat.succ_pos _) rfl (Tri.of Tryz.mixed Tryz.T_ok ?_)
    (refine xB ?_)
    refine wC (fun h1 => ?_) (fun h1 => ?_)
    · (refine xG ?_)
      exact wD (Ends.shutN (.inr rfl) (Reg.shuts rgS rgE (x :: r) 0 (Nat.succ_pos _) rfl rfl rfl rfl rfl (fun _ _ => rfl)) rfl rfl (by rw [inB, h1]; rfl))
    · (refine xG ?_)
      exact wD (Ends.shutN (.inr rfl) (Reg.shuts rgS rgE (x :: r) 0 (Nat.succ_pos _) rfl rfl rfl rfl rfl (fun _ _ => rfl)) rfl rfl (by rw [inB, h1]; rfl))
theorem regLen_can (L : List SideM) : Acts Tryz.prog 35 (.abs (pReg L)) (.abs (pReg L)) [] [] (XV.int .i64 L.length) := by
  refine Acts.of Tryz.T_ok Tryz.func35 rfl _ _ _ _ _ rfl rfl rfl (fun C hC => ?_)
  (replace hC : C.n0 = 1 := hC; change Tri _ _ _ ⟨_, _, 1⟩ _)
  rcases L with _ | ⟨x, r⟩
  · refine Reg.opens0 rgS rgE 0 rfl (Tri.of Tryz.mixed Tryz.T_ok ?_)
    (refine xB ?_)
    exact wD (Ends.shutN (.inr rfl) (Reg.shuts0 rgS rgE 0 rfl) rfl rfl rfl)
  · refine Reg.opensD rgS rgE (x :: r) 0 (Nat.succ_pos _) rfl (Tri.of Tryz.mixed Tryz.T_ok ?_)
    (refine xB ?_)
    exact wD (Ends.shutN (.inr rfl) (Reg.shuts rgS rgE (x :: r) 0 (Nat.succ_pos _) rfl rfl rfl rfl rfl (fun _ _ => rfl)) rfl rfl rfl)
theorem regNew_spec {M : Mem} {d : Nat} : CallSpec Tryz.prog 62 [] M d { v := XV.sv (.ptr d 0 0 0), upd := [(d, .abs (pReg []))] } [] := by
  refine spec_new Tryz.T_ok Tryz.func62 rfl [] rfl 2 (fun C hC => ?_)
  refine Tri.of Tryz.mixed Tryz.T_ok ?_
  (refine xB ?_)
  exact wD (Ends.made (.inr rfl) (Reg.shuts0 rgS rgE 2 rfl) rfl (Nat.zero_le _) rfl)
theorem regF_raw {L : List SideM} : ∀ i, i < L.length → ∀ (j : Nat) (x : AC), (regF L i)[j]? = some x → (∃ u, x = AC.raw u) ∨ (regF L i)[j]? = some x := fun _ _ _ _ h => .inr h
set_option maxHeartbeats 4000000 in
theorem side_in (L : List SideM) (i : Nat) (hi : i < L.length) (hx : (L.getD i default).Sized) : Does Tryz.prog 22 [(.abs (pReg L), .abs (pReg L))] [.plain (.one (.raw (.int .i64 i)))] []
    (.tup [.agg (sideIns (L.getD i default) 0), .one (.raw (.bool true))]) (some (.abs (PackP (sideRows (L.getD i default))))) := by
  have h0 : 0 < L.length := by omega
  have hin : inB L (i : Int) = true := by rw [inB, Bool.and_eq_true, decide_eq_true_eq, decide_eq_true_eq]; omega
  have hc := copied_can (L.getD i default) hx
  have hreg := regIn_can L (i : Int)
  rw [hin] at hreg
  refine Does.of Tryz.T_ok Tryz.func22 rfl _ _ _ _ _ rfl rfl rfl 18 (fun C hC => ?_)
  (replace hC : C.n0 = 2 := hC; change Tri _ _ _ ⟨_, _, 2⟩ _)
  (refine Tri.cut 2 Tryz.mixed Tryz.T_ok ?_; refine xZ ?_)
  (apply wP; exact (call_op rfl (entersB_of Tryz.func55 (by kernel_rfl)) rfl (hreg.at [] rfl rfl rfl ⟨lend_plain rfl, trivial⟩ trivial)); refine xZ ?_)
  refine wD <| cutG <| Reg.opens rgS rgE L 0 h0 rfl (Nat.le_of_ble_eq_true rfl) (fun ad => Tri.of Tryz.mixed Tryz.T_ok ?_)
  (refine xB ?_)
  (repeat (refine wN ?_ ?_; exact xW; refine xG ?_))
  simp only [Nat.zero_add, Int.toNat_natCast]
  (apply wP; exact (call_op rfl (entersB_of Tryz.func56 (by kernel_rfl)) rfl (hc.at [10] ⟨lend_rec (q := 10) (L := L) (i := i) (ad := ad) rfl rfl hi, trivial⟩ trivial)); refine xZ ?_)
  exact wD (Ends.does (.inr rfl) (Reg.shutsO rgS rgE L L 0 (i1 := 9) (q := 10) h0 rfl rfl rfl rfl rfl rfl (fun _ _ => rfl) regF_raw) rfl rfl (Nat.le_of_ble_eq_true rfl) rfl)
abbrev nilV : SV := .raw (.slice none 0 0)
def sideZ : XV := .tup [.agg (sideCells side0 nilV nilV nilV nilV), .one (.raw (.bool false))]
theorem side_out (L : List SideM) (i : Int) (hi : inB L i = false) : Does Tryz.prog 22 [(.abs (pReg L), .abs (pReg L))] [.plain (.one (.raw (.int .i64 i)))] [] sideZ none := by
  have hreg := regIn_can L i
  rw [hi] at hreg
  refine Does.of Tryz.T_ok Tryz.func22 rfl _ _ _ _ _ rfl rfl rfl 0 (fun C hC => ?_)
  (replace hC : C.n0 = 2 := hC; change Tri _ _ _ ⟨_, _, 2⟩ _)
  refine Tri.of Tryz.mixed Tryz.T_ok ?_
  (refine xB ?_)
  (apply wP; exact (call_op rfl (entersB_of Tryz.func55 (by kernel_rfl)) rfl (hreg.at [] rfl rfl rfl ⟨lend_plain rfl, trivial⟩ trivial)); refine xZ ?_)
  exact wD (Ends.shutN (.inr rfl) (Ent.refl _) rfl rfl rfl)
set_option maxHeartbeats 4000000 in
theorem regSet_can (L : List SideM) (i : Nat) (hi : i < L.length) (x : SideM) (hx : x.Sized) : Acts Tryz.prog 49 (.abs (pReg L)) (.abs (pReg (L.set i x))) [.plain (.one (.raw (.int .i64 i))), .box x.ac] [] (XV.bool true) := by
  have h0 : 0 < L.length := by omega
  have hin : inB L (i : Int) = true := by rw [inB, Bool.and_eq_true, decide_eq_true_eq, decide_eq_true_eq]; omega
  have hc := copied_can x hx
  have hreg := regIn_can L (i : Int)
  rw [hin] at hreg
  refine Acts.of Tryz.T_ok Tryz.func49 rfl _ _ _ _ _ rfl rfl rfl (fun C hC => ?_)
  (replace hC : C.n0 = 6 := hC; change Tri _ _ _ ⟨_, _, 6⟩ _)
  (refine Tri.cut 2 Tryz.mixed Tryz.T_ok ?_; refine xZ ?_)
  (apply wP; exact (call_op rfl (entersB_of Tryz.func55 (by kernel_rfl)) rfl (hreg.at [] rfl rfl rfl ⟨lend_plain rfl, trivial⟩ trivial)); refine xZ ?_)
  refine wD <| cutG <| Reg.opensD rgS rgE L 0 h0 rfl (Tri.of Tryz.mixed Tryz.T_ok ?_)
  (refine xB ?_)
  (apply wP; exact (call_op rfl (entersB_of Tryz.func56 (by kernel_rfl)) rfl (hc.at [2, 3, 4, 5] ⟨lend_side (lend_ro0 rfl rfl) (lend_ro0 rfl rfl) (lend_ro0 rfl rfl) (lend_ro0 rfl rfl), trivial⟩ trivial)); refine xZ ?_)
  (repeat (refine wN ?_ ?_; exact xW; refine xG ?_))
  simp only [Nat.zero_add, Int.toNat_natCast]
  (refine wP _ _ (storeDeep_op Tryz.T_ok rfl rfl rfl rfl rfl rfl (by decide) rfl rfl rfl hi (boxed_ins x 20)) ?_; refine xZ ?_)
  refine wD (Ends.shutN (.inr rfl) (Reg.shuts rgS rgE (L.set i x) 0 (i1 := 13) (by rw [List.length_set]; exact h0) rfl rfl rfl (by rw [List.length_set]) (by rw [List.length_set]) (fun k _ => ?_)) rfl rfl rfl)
  exact congrFun (regF_set hi x) k
end Go.Proofs.YtnpkdoggfnlapaaGreatDoor
