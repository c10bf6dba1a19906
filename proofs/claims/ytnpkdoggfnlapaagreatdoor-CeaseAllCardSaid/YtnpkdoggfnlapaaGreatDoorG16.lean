/- Parts Tc Td Te Tf Tg Th Ti Ra Rb Rc Rd Re Rf. -/
import Derived.Test.YtnpkdoggfnlapaaGreatDoorG15
set_option linter.unusedSimpArgs false
set_option linter.unusedVariables false
namespace Go.Proofs.YtnpkdoggfnlapaaGreatDoor
set_option maxRecDepth 100000
open Go.Sx
theorem range_all_succ (p : Nat → Bool) (i : Nat) : (List.range (i + 1)).all p = ((List.range i).all p && p i) := by rw [List.range_succ, List.all_append]; simp
theorem range_all_false {p : Nat → Bool} {n i : Nat} (hi : i < n) (h : p i = false) : (List.range n).all p = false := by
  rw [List.all_eq_false]
  exact ⟨i, List.mem_range.2 hi, by rw [h]; simp⟩
theorem getD_take {E : Type} [Inhabited E] {l : List E} {i j : Nat} (h : j < i) : (l.take i).getD j default = l.getD j default := by
  rw [List.getD_eq_getElem?_getD, List.getD_eq_getElem?_getD, List.getElem?_take_of_lt h]
theorem LendsC.all_raw {M : Mem} {rd : List Nat} : ∀ vs : List Value, LendsC M rd (vs.map .raw) (vs.map .raw)
  | [] => trivial
  | _ :: vs => ⟨rfl, LendsC.all_raw vs⟩
def parCells (p : ParM) (s : SV) : List SV := .raw (.int .i64 p.len) :: .raw (.int .i64 p.win) :: .raw (.int .i64 p.need) :: [s]
def certCells (c : CertM) (s1 s2 : SV) : List SV := .raw (.int .i64 c.side) :: .raw (.int .i64 c.ep) :: .raw (.int .i64 c.qual) :: (c.fin.cells.map .raw ++ (c.root.cells.map .raw ++ [s1, s2]))
def txCells (t : TxM) (s1 s2 s3 s4 s5 s6 : SV) : List SV := .raw (.int .i64 t.kind) :: .raw (.int .i64 t.height) :: s1 :: s2 :: s3 :: (parCells t.par s4 ++ (certCells t.cert s5 s6 ++ t.claim.cells.map .raw))
theorem lend_cert_cells {M : Mem} {rd : List Nat} {c : CertM} {s1 s2 : SV} {r : List SV} {l : List AC} (h1 : Lends M rd (.one s1) (.row 9 c.outs.length (outsF c.outs))) (h2 : Lends M rd (.one s2) (.row 282 c.sigs.length (sgdsF c.sigs))) (h : LendsC M rd r l) : LendsC M rd (certCells c s1 s2 ++ r) (c.ac ++ l) := by
  refine ⟨rfl, rfl, rfl, ?_⟩
  show LendsC M rd ((c.fin.cells.map .raw ++ (c.root.cells.map .raw ++ [s1, s2])) ++ r) ((rC c.fin.cells ++ (rC c.root.cells ++ [AC.row 9 c.outs.length (outsF c.outs), .row 282 c.sigs.length (sgdsF c.sigs)])) ++ l)
  rw [List.append_assoc, List.append_assoc, List.append_assoc, List.append_assoc]
  refine LendsC.raws ?_ _
  refine LendsC.raws ?_ _
  exact ⟨h1, h2, h⟩
theorem lend_tx {M : Mem} {rd : List Nat} {t : TxM} {s1 s2 s3 s4 s5 s6 : SV} (h1 : Lends M rd (.one s1) (.row 298 t.ins.length (insF t.ins))) (h2 : Lends M rd (.one s2) (.row 9 t.outs.length (outsF t.outs))) (h3 : Lends M rd (.one s3) (.row 11 t.fwds.length (fwdsF t.fwds)))
    (h4 : Lends M rd (.one s4) (.row 8 t.par.keys.length (keysF t.par.keys))) (h5 : Lends M rd (.one s5) (.row 9 t.cert.outs.length (outsF t.cert.outs))) (h6 : Lends M rd (.one s6) (.row 282 t.cert.sigs.length (sgdsF t.cert.sigs))) : Lends M rd (.agg (txCells t s1 s2 s3 s4 s5 s6)) (.box t.ac) :=
  lend_box ⟨rfl, rfl, h1, h2, h3, rfl, rfl, rfl, h4, lend_cert_cells h5 h6 (LendsC.all_raw _)⟩
def parZ (p : ParM) : Bool := p.len == 0 && (p.win == 0 && (p.need == 0 && (p.keys.length : Int) == 0))
def certZ (c : CertM) : Bool := c.side == 0 && (c.ep == 0 && (c.qual == 0 && (zeroB c.fin && (zeroB c.root && ((c.outs.length + c.sigs.length : Nat) : Int) == 0))))
def emptyB (t : TxM) : Bool := t.height == 0 && (((t.ins.length + t.outs.length + t.fwds.length : Nat) : Int) == 0 && (parZ t.par && certZ t.cert))
structure Sized (t : TxM) : Prop where
  ins : t.ins.length ≤ 1000000000
  outs : t.outs.length ≤ 1000000000
  fwds : t.fwds.length ≤ 1000000000
  keys : t.par.keys.length ≤ 1000000000
  couts : t.cert.outs.length ≤ 1000000000
  sigs : t.cert.sigs.length ≤ 1000000000
def TxM.cs (t : TxM) : List SV := boxC 0 t.ac
def emptyM (t : TxM) : Mem := [(6, .cells 48 t.cs)]
def certCs (t : TxM) : List SV := boxC 4 t.cert.ac
def emptySt2 (t : TxM) : St := ⟨[none, some (XV.sv (.ptr 6 0 0 0)), none, none, some (XV.sv (.ptr 7 0 0 0)), some (XV.bool (parZ t.par))] ++ List.replicate 86 none, emptyM t ++ [(7, .cells 43 (certCs t))], 8⟩
def emptySt3 (t : TxM) : St := ⟨[none, some (XV.sv (.ptr 6 0 0 0)), none, none, none, some (XV.bool (parZ t.par)), some (XV.bool (certZ t.cert))] ++ List.replicate 85 none, emptyM t, 7⟩
def claimK : List Kd := [.int .i64, .int .i64] ++ (hashKinds ++ ([.int .i64, .int .i64] ++ (List.replicate 16 hashKinds).flatten))
theorem claim_deep : Tryz.prog.keyTypeAt 8 46 = true := by kernel_rfl
theorem claim_keyT : Tryz.prog.keyType 46 = true := by kernel_rfl
theorem claim_row : (46 : TypeId) < Tryz.prog.types.size := of_decide_eq_true (by kernel_rfl)
theorem claim_law : WideMaps.KeyLaw Tryz.prog 46 := deep_law_laid laid (m := 8) (by omega) claim_row claim_deep (by rw [Tryz.underlying46])
theorem claim_cells : claimK.length = Tryz.prog.cellsOf 46 := by kernel_rfl
theorem claim_noguard : Tryz.prog.eqGuardType Tryz.prog.depth 46 = false := by kernel_rfl
def ClaimV := { cs : List Value // Fits claimK cs }
noncomputable instance : DecidableEq ClaimV := fun _ _ => Classical.propDecidable _
def ClaimV.v (c : ClaimV) : Value := .agg c.1.toArray
theorem ClaimV.inj (a b : ClaimV) (h : a.v = b.v) : a = b := by
  apply Subtype.ext
  have := congrArg (fun v => v.cells.toList) h
  simpa [ClaimV.v, Value.cells] using this
theorem claim_key (h : ClaimV) : ∃ l, keyOf Tryz.prog 46 h.v = some l := keyOf_fits Tryz.T_ok (f := 8) (ks := claimK) rfl claim_deep claim_keyT types_many (by rw [Tryz.underlying46]) h.2 claim_cells
theorem claimE : EqK Tryz.prog 46 ClaimV.v := EqK.of (m := 8) claim_law (by omega) claim_deep (by rw [Tryz.underlying46]) claim_key ClaimV.inj claim_noguard (fun a => ⟨_, rfl⟩)
theorem hashes_fits : ∀ (n : Nat) (f : Nat → H8) (i : Nat), Fits ((List.replicate n hashKinds).flatten) (tabF (hashF f) i n)
  | 0, _, _ => rfl
  | n + 1, f, i => by rw [List.replicate_succ, List.flatten_cons]; exact Fits.append (hash_fits (f i)) (hashes_fits n f (i + 1))
def inI64 (n : Int) : Prop := (Lit.int .i64 n).wf = true
structure ClaimM.Wf (c : ClaimM) : Prop where
  side : inI64 c.side
  acct : inI64 c.acct
  amt : inI64 c.st.amt
  nonce : inI64 c.st.nonce
theorem ClaimM.fits {c : ClaimM} (h : c.Wf) : Fits claimK c.cells := by
  refine ⟨_, _, rfl, ⟨_, rfl, h.side⟩, _, _, rfl, ⟨_, rfl, h.acct⟩, ?_⟩
  have e : c.st.cells ++ tabF (hashF c.proof) 0 16 = c.st.owner.cells ++ ([.int .i64 c.st.amt, .int .i64 c.st.nonce] ++ tabF (hashF c.proof) 0 16) := by simp [AccM.cells]
  rw [e]
  show Fits (hashKinds ++ ([.int .i64, .int .i64] ++ (List.replicate 16 hashKinds).flatten)) _
  exact Fits.append (hash_fits _) (Fits.append ⟨_, _, rfl, ⟨_, rfl, h.amt⟩, _, _, rfl, ⟨_, rfl, h.nonce⟩, rfl⟩ (hashes_fits 16 _ 0))
theorem claim0_wf : claim0.Wf := ⟨rfl, rfl, rfl, rfl⟩
def ClaimM.cv (c : ClaimM) (h : c.Wf) : ClaimV := ⟨c.cells, c.fits h⟩
noncomputable def claimZ (c : ClaimM) (h : c.Wf) : Bool := decide (c.cv h = claim0.cv claim0_wf)
theorem claimZ_zero (h : claim0.Wf) : claimZ claim0 h = true := decide_eq_true rfl
set_option maxHeartbeats 4000000 in
theorem empty_can (t : TxM) (hs : Sized t) (hc : t.claim.Wf) : Reads Tryz.prog 140 [.box t.ac] [] (XV.bool (emptyB t && claimZ t.claim hc)) := by
  have hi := hs.ins
  have ho := hs.outs
  have hf := hs.fwds
  have hco := hs.couts
  have hcs := hs.sigs
  refine Reads.of Tryz.T_ok Tryz.func140 rfl _ _ _ rfl rfl (fun C hC => ?_)
  (replace hC : C.n0 = 6 := hC; change Tri _ _ _ ⟨_, _, 6⟩ _)
  (refine Tri.cut 2 Tryz.mixed Tryz.T_ok ?_; ((conv => arg 5; whnf); repeat (refine xS ?_; conv => arg 5; whnf)))
  refine wD <| cutG <| Tri.merge (emptySt2 t) (Tri.of Tryz.mixed Tryz.T_ok ?_) ?_
  · (refine wBegin ?_; ((conv => arg 5; whnf); repeat (refine xS ?_; conv => arg 5; whnf)))
    refine wC (fun h1 => ?_) (fun h1 => ?_)
    · (refine wGo ?_; ((conv => arg 5; whnf); repeat (refine xS ?_; conv => arg 5; whnf)))
      refine wC (fun h2 => ?_) (fun h2 => ?_)
      · (refine wGo ?_; ((conv => arg 5; whnf); repeat (refine xS ?_; conv => arg 5; whnf)))
        refine wC (fun h3 => ?_) (fun h3 => ?_)
        · (refine wGo ?_; ((conv => arg 5; whnf); repeat (refine xS ?_; conv => arg 5; whnf)))
          refine wD ⟨rfl, ?_⟩
          unfold emptySt2
          rw [show parZ t.par = ((t.par.keys.length : Int) == 0) by rw [parZ, h1, h2, h3]; rfl]
          ((try dsimp only); refine Ent.renC [0, 1, 2, 3, 4, 5, 6, 13] hC ?_ ?_ <;> repeat' (first | exact trivial | exact rfl | exact ⟨_, rfl, rfl, rfl, Nat.le_refl _, fun _ _ => rfl⟩ | exact ⟨_, rfl, rfl, rfl, fun _ _ => rfl⟩ | exact ⟨_, rfl, rfl, rfl⟩ | exact ⟨_, rfl, rfl⟩ | refine ⟨_, rfl, rfl, rfl, by omega, fun k hk => ?_⟩ | refine ⟨?_, ?_⟩ | fail))
        · (refine wGo ?_; ((conv => arg 5; whnf); repeat (refine xS ?_; conv => arg 5; whnf)))
          refine wD ⟨rfl, ?_⟩
          unfold emptySt2
          rw [show parZ t.par = false by rw [parZ, h1, h2, h3]; rfl]
          ((try dsimp only); refine Ent.renC [0, 1, 2, 3, 4, 5, 6, 13] hC ?_ ?_ <;> repeat' (first | exact trivial | exact rfl | exact ⟨_, rfl, rfl, rfl, Nat.le_refl _, fun _ _ => rfl⟩ | exact ⟨_, rfl, rfl, rfl, fun _ _ => rfl⟩ | exact ⟨_, rfl, rfl, rfl⟩ | exact ⟨_, rfl, rfl⟩ | refine ⟨_, rfl, rfl, rfl, by omega, fun k hk => ?_⟩ | refine ⟨?_, ?_⟩ | fail))
      · (refine wGo ?_; ((conv => arg 5; whnf); repeat (refine xS ?_; conv => arg 5; whnf)))
        refine wD ⟨rfl, ?_⟩
        unfold emptySt2
        rw [show parZ t.par = false by rw [parZ, h1, h2]; rfl]
        ((try dsimp only); refine Ent.renC [0, 1, 2, 3, 4, 5, 6, 13] hC ?_ ?_ <;> repeat' (first | exact trivial | exact rfl | exact ⟨_, rfl, rfl, rfl, Nat.le_refl _, fun _ _ => rfl⟩ | exact ⟨_, rfl, rfl, rfl, fun _ _ => rfl⟩ | exact ⟨_, rfl, rfl, rfl⟩ | exact ⟨_, rfl, rfl⟩ | refine ⟨_, rfl, rfl, rfl, by omega, fun k hk => ?_⟩ | refine ⟨?_, ?_⟩ | fail))
    · (refine wGo ?_; ((conv => arg 5; whnf); repeat (refine xS ?_; conv => arg 5; whnf)))
      refine wD ⟨rfl, ?_⟩
      unfold emptySt2
      rw [show parZ t.par = false by rw [parZ, h1]; rfl]
      ((try dsimp only); refine Ent.renC [0, 1, 2, 3, 4, 5, 6, 13] hC ?_ ?_ <;> repeat' (first | exact trivial | exact rfl | exact ⟨_, rfl, rfl, rfl, Nat.le_refl _, fun _ _ => rfl⟩ | exact ⟨_, rfl, rfl, rfl, fun _ _ => rfl⟩ | exact ⟨_, rfl, rfl, rfl⟩ | exact ⟨_, rfl, rfl⟩ | refine ⟨_, rfl, rfl, rfl, by omega, fun k hk => ?_⟩ | refine ⟨?_, ?_⟩ | fail))
  refine Tri.merge (emptySt3 t) (Tri.of Tryz.mixed Tryz.T_ok ?_) (Tri.of Tryz.mixed Tryz.T_ok ?_)
  · (refine wBegin ?_; ((conv => arg 5; whnf); repeat (refine xS ?_; conv => arg 5; whnf)))
    have fin : ∀ {S : St} {b : Bool}, b = certZ t.cert → Ent C S ⟨(emptySt3 t).slots.set 6 (some (XV.bool b)), (emptySt3 t).mem, 7⟩ → Ent C S (emptySt3 t) := by
      intro S b hb h; subst hb; exact h
    refine wC (fun h1 => ?_) (fun h1 => ?_)
    · (refine wGo ?_; ((conv => arg 5; whnf); repeat (refine xS ?_; conv => arg 5; whnf)))
      refine wC (fun h2 => ?_) (fun h2 => ?_)
      · (refine wGo ?_; ((conv => arg 5; whnf); repeat (refine xS ?_; conv => arg 5; whnf)))
        refine wC (fun h3 => ?_) (fun h3 => ?_)
        · (refine wGo ?_; ((conv => arg 5; whnf); repeat (refine xS ?_; conv => arg 5; whnf)))
          (apply wP; exact (call_op rfl (entersB_of Tryz.func145 (by kernel_rfl)) rfl ((zero_can t.cert.fin).at [] ⟨lend_plain rfl, trivial⟩ trivial)); ((conv => arg 5; whnf); repeat (refine xS ?_; conv => arg 5; whnf)))
          refine wC (fun h4 => ?_) (fun h4 => ?_)
          · (refine wGo ?_; ((conv => arg 5; whnf); repeat (refine xS ?_; conv => arg 5; whnf)))
            (apply wP; exact (call_op rfl (entersB_of Tryz.func145 (by kernel_rfl)) rfl ((zero_can t.cert.root).at [] ⟨lend_plain rfl, trivial⟩ trivial)); ((conv => arg 5; whnf); repeat (refine xS ?_; conv => arg 5; whnf)))
            refine wC (fun h5 => ?_) (fun h5 => ?_)
            · (refine wGo ?_; ((conv => arg 5; whnf); repeat (refine xS ?_; conv => arg 5; whnf)))
              have e : IntKind.i64.wrap ((t.cert.outs.length : Int) + (t.cert.sigs.length : Int)) = ((t.cert.outs.length + t.cert.sigs.length : Nat) : Int) := (by (try simp only [ww] at *); omega)
              rw [e]
              refine wD ⟨rfl, fin (b := (((t.cert.outs.length + t.cert.sigs.length : Nat) : Int) == 0)) (by rw [certZ, h1, h2, h3, h4, h5]; rfl) ?_⟩
              ((try dsimp only); refine Ent.renC [0, 1, 2, 3, 4, 5, 6] hC ?_ ?_ <;> repeat' (first | exact trivial | exact rfl | exact ⟨_, rfl, rfl, rfl, Nat.le_refl _, fun _ _ => rfl⟩ | exact ⟨_, rfl, rfl, rfl, fun _ _ => rfl⟩ | exact ⟨_, rfl, rfl, rfl⟩ | exact ⟨_, rfl, rfl⟩ | refine ⟨_, rfl, rfl, rfl, by omega, fun k hk => ?_⟩ | refine ⟨?_, ?_⟩ | fail))
            · (refine wGo ?_; ((conv => arg 5; whnf); repeat (refine xS ?_; conv => arg 5; whnf)))
              refine wD ⟨rfl, fin (b := false) (by rw [certZ, h1, h2, h3, h4, h5]; rfl) ?_⟩
              ((try dsimp only); refine Ent.renC [0, 1, 2, 3, 4, 5, 6] hC ?_ ?_ <;> repeat' (first | exact trivial | exact rfl | exact ⟨_, rfl, rfl, rfl, Nat.le_refl _, fun _ _ => rfl⟩ | exact ⟨_, rfl, rfl, rfl, fun _ _ => rfl⟩ | exact ⟨_, rfl, rfl, rfl⟩ | exact ⟨_, rfl, rfl⟩ | refine ⟨_, rfl, rfl, rfl, by omega, fun k hk => ?_⟩ | refine ⟨?_, ?_⟩ | fail))
          · (refine wGo ?_; ((conv => arg 5; whnf); repeat (refine xS ?_; conv => arg 5; whnf)))
            refine wD ⟨rfl, fin (b := false) (by rw [certZ, h1, h2, h3, h4]; rfl) ?_⟩
            ((try dsimp only); refine Ent.renC [0, 1, 2, 3, 4, 5, 6] hC ?_ ?_ <;> repeat' (first | exact trivial | exact rfl | exact ⟨_, rfl, rfl, rfl, Nat.le_refl _, fun _ _ => rfl⟩ | exact ⟨_, rfl, rfl, rfl, fun _ _ => rfl⟩ | exact ⟨_, rfl, rfl, rfl⟩ | exact ⟨_, rfl, rfl⟩ | refine ⟨_, rfl, rfl, rfl, by omega, fun k hk => ?_⟩ | refine ⟨?_, ?_⟩ | fail))
        · (refine wGo ?_; ((conv => arg 5; whnf); repeat (refine xS ?_; conv => arg 5; whnf)))
          refine wD ⟨rfl, fin (b := false) (by rw [certZ, h1, h2, h3]; rfl) ?_⟩
          ((try dsimp only); refine Ent.renC [0, 1, 2, 3, 4, 5, 6] hC ?_ ?_ <;> repeat' (first | exact trivial | exact rfl | exact ⟨_, rfl, rfl, rfl, Nat.le_refl _, fun _ _ => rfl⟩ | exact ⟨_, rfl, rfl, rfl, fun _ _ => rfl⟩ | exact ⟨_, rfl, rfl, rfl⟩ | exact ⟨_, rfl, rfl⟩ | refine ⟨_, rfl, rfl, rfl, by omega, fun k hk => ?_⟩ | refine ⟨?_, ?_⟩ | fail))
      · (refine wGo ?_; ((conv => arg 5; whnf); repeat (refine xS ?_; conv => arg 5; whnf)))
        refine wD ⟨rfl, fin (b := false) (by rw [certZ, h1, h2]; rfl) ?_⟩
        ((try dsimp only); refine Ent.renC [0, 1, 2, 3, 4, 5, 6] hC ?_ ?_ <;> repeat' (first | exact trivial | exact rfl | exact ⟨_, rfl, rfl, rfl, Nat.le_refl _, fun _ _ => rfl⟩ | exact ⟨_, rfl, rfl, rfl, fun _ _ => rfl⟩ | exact ⟨_, rfl, rfl, rfl⟩ | exact ⟨_, rfl, rfl⟩ | refine ⟨_, rfl, rfl, rfl, by omega, fun k hk => ?_⟩ | refine ⟨?_, ?_⟩ | fail))
    · (refine wGo ?_; ((conv => arg 5; whnf); repeat (refine xS ?_; conv => arg 5; whnf)))
      refine wD ⟨rfl, fin (b := false) (by rw [certZ, h1]; rfl) ?_⟩
      ((try dsimp only); refine Ent.renC [0, 1, 2, 3, 4, 5, 6] hC ?_ ?_ <;> repeat' (first | exact trivial | exact rfl | exact ⟨_, rfl, rfl, rfl, Nat.le_refl _, fun _ _ => rfl⟩ | exact ⟨_, rfl, rfl, rfl, fun _ _ => rfl⟩ | exact ⟨_, rfl, rfl, rfl⟩ | exact ⟨_, rfl, rfl⟩ | refine ⟨_, rfl, rfl, rfl, by omega, fun k hk => ?_⟩ | refine ⟨?_, ?_⟩ | fail))
  · (refine wBegin ?_; ((conv => arg 5; whnf); repeat (refine xS ?_; conv => arg 5; whnf)))
    refine wC (fun h1 => ?_) (fun h1 => ?_)
    · (refine wGo ?_; ((conv => arg 5; whnf); repeat (refine xS ?_; conv => arg 5; whnf)))
      have e1 : IntKind.i64.wrap ((t.ins.length : Int) + (t.outs.length : Int)) = ((t.ins.length + t.outs.length : Nat) : Int) := (by (try simp only [ww] at *); omega)
      have e2 : IntKind.i64.wrap (((t.ins.length + t.outs.length : Nat) : Int) + (t.fwds.length : Int)) = ((t.ins.length + t.outs.length + t.fwds.length : Nat) : Int) := (by (try simp only [ww] at *); omega)
      simp only [e1, e2]
      refine wC (fun h2 => ?_) (fun h2 => ?_)
      · (refine wGo ?_; ((conv => arg 5; whnf); repeat (refine xS ?_; conv => arg 5; whnf)))
        refine wC (fun h3 => ?_) (fun h3 => ?_)
        · (refine wGo ?_; ((conv => arg 5; whnf); repeat (refine xS ?_; conv => arg 5; whnf)))
          refine wC (fun h4 => ?_) (fun h4 => ?_)
          · (refine wGo ?_; ((conv => arg 5; whnf); repeat (refine xS ?_; conv => arg 5; whnf)))
            (refine wP _ _ (eq_op claimE rfl (t.claim.cv hc) (claim0.cv claim0_wf) rfl rfl) ?_; ((conv => arg 5; whnf); repeat (refine xS ?_; conv => arg 5; whnf)))
            refine wD (Ends.plain (.inr rfl) rfl ?_)
            rw [emptyB, h1, h2, h3, h4]; rfl
          · (refine wGo ?_; ((conv => arg 5; whnf); repeat (refine xS ?_; conv => arg 5; whnf)))
            refine wD (Ends.plain (.inr rfl) rfl ?_)
            rw [emptyB, h1, h2, h3, h4]; rfl
        · (refine wGo ?_; ((conv => arg 5; whnf); repeat (refine xS ?_; conv => arg 5; whnf)))
          refine wD (Ends.plain (.inr rfl) rfl ?_)
          rw [emptyB, h1, h2, h3]; rfl
      · (refine wGo ?_; ((conv => arg 5; whnf); repeat (refine xS ?_; conv => arg 5; whnf)))
        refine wD (Ends.plain (.inr rfl) rfl ?_)
        rw [emptyB, h1, h2]; rfl
    · (refine wGo ?_; ((conv => arg 5; whnf); repeat (refine xS ?_; conv => arg 5; whnf)))
      refine wD (Ends.plain (.inr rfl) rfl ?_)
      rw [emptyB, h1]; rfl
end Go.Proofs.YtnpkdoggfnlapaaGreatDoor
namespace Go.Proofs.YtnpkdoggfnlapaaGreatDoor
set_option maxRecDepth 100000
open Go.Sx
end Go.Proofs.YtnpkdoggfnlapaaGreatDoor
namespace Go.Proofs.YtnpkdoggfnlapaaGreatDoor
set_option maxRecDepth 100000
open Go.Sx
theorem rowB_numL (n : Int) : ∀ {w k : Nat}, k < w → bytesF (numB n) k = rowB (numL n w) k
  | w + 1, k, hk => by
    rw [numL]
    by_cases h : k < w
    · rw [rowB_numL n h]
      simp [rowB, bytesF, List.getD_eq_getElem?_getD, List.getElem?_append_left (show k < (numL n w).length by rw [numL_length]; exact h)]
    · obtain rfl : k = w := by omega
      simp [rowB, bytesF, List.getD_eq_getElem?_getD, numL_length]
def digF (n : Int) (i : Nat) : Nat → UInt8 := fun k => if k < i then numB n k else 0
def digSt (n : Int) (w i : Nat) : St :=
  ⟨[some (XV.int .i64 n), none, none, none, none, some (XV.sv (.slc 2 1 0 w)), none, none, none, some (XV.sv (.slc 2 1 0 w)), some (XV.int .i64 w), some (XV.int .i64 i)] ++ List.replicate 12 none,
   [(2, .vec 5 1 w (bytesF (digF n i)))], 3⟩
theorem digits_can (n : Int) (w : Nat) (hw : w ≤ 7) : Makes Tryz.prog 212 [.plain (.one (.raw (.int .i64 n))), .plain (.one (.raw (.int .i64 w)))] [] (XV.sv (.slc 0 1 0 w)) (.vec 5 1 w (rowB (numL n w))) := by
  refine Makes.of Tryz.T_ok Tryz.func212 rfl _ _ _ _ rfl rfl rfl rfl 2 (fun C hC => ?_)
  (replace hC : C.n0 = 2 := hC; change Tri _ _ _ ⟨_, _, 2⟩ _)
  (refine Tri.cut 2 Tryz.mixed Tryz.T_ok ?_; ((conv => arg 5; whnf); repeat (refine xS ?_; conv => arg 5; whnf)))
  refine wN ⟨rfl, by omega, by omega⟩ ?_
  (refine wGo ?_; ((conv => arg 5; whnf); repeat (refine xS ?_; conv => arg 5; whnf)))
  refine wD <| cutG <| Tri.seq ?_
  (refine Tri.cut 1 Tryz.mixed Tryz.T_ok ?_; ((conv => arg 5; whnf); repeat (refine xS ?_; conv => arg 5; whnf)))
  refine wD <| cutG <| Tri.block ?_
  refine Tri.loop (α := { i : Nat // i ≤ w }) (fun i => digSt n w i.1) (fun i => w - i.1) ⟨0, Nat.zero_le _⟩ ?_ ?_
  · simp only [Int.toNat_natCast]
    ((try dsimp only); refine Ent.renC [0, 1, 4] hC ?_ ?_ <;> repeat' (first | exact trivial | exact rfl | exact ⟨_, rfl, rfl, rfl, Nat.le_refl _, fun _ _ => rfl⟩ | exact ⟨_, rfl, rfl, rfl, fun _ _ => rfl⟩ | exact ⟨_, rfl, rfl, rfl⟩ | exact ⟨_, rfl, rfl⟩ | refine ⟨_, rfl, rfl, rfl, by omega, fun k hk => ?_⟩ | refine ⟨?_, ?_⟩ | fail))
  rintro ⟨i, hi⟩
  dsimp only
  (refine Tri.cut 2 Tryz.mixed Tryz.T_ok ?_; ((conv => arg 5; whnf); repeat (refine xS ?_; conv => arg 5; whnf)))
  refine wC (fun h1 => ?_) (fun h1 => ?_)
  · (refine wGo ?_; ((conv => arg 5; whnf); repeat (refine xS ?_; conv => arg 5; whnf)))
    have h1' : i < w := (by (try simp only [ww] at *); omega)
    have hw1 : IntKind.i64.wrap ((i : Int) + 1) = ((i + 1 : Nat) : Int) := (by (try simp only [ww] at *); omega)
    have hw8 : IntKind.i64.wrap (8 * (i : Int)) = ((8 * i : Nat) : Int) := (by (try simp only [ww] at *); omega)
    refine wD <| cutG <| Tri.seq <| Tri.block <| Tri.of Tryz.mixed Tryz.T_ok ?_
    (refine wBegin ?_; ((conv => arg 5; whnf); repeat (refine xS ?_; conv => arg 5; whnf)))
    simp only [hw8]
    (repeat (refine wN ?_ ?_; exact (by (try simp only [ww] at *); omega); refine wGo ?_; ((conv => arg 5; whnf); repeat (refine xS ?_; conv => arg 5; whnf))))
    refine wD <| blockN <| cutG <| Tri.of Tryz.mixed Tryz.T_ok ?_
    (refine wBegin ?_; ((conv => arg 5; whnf); repeat (refine xS ?_; conv => arg 5; whnf)))
    refine wD <| loopN ⟨⟨i + 1, h1'⟩, by dsimp only; omega, ?_⟩
    rw [hw1]
    ((try dsimp only); refine Ent.renC [0, 1, 2] hC ?_ ?_ <;> repeat' (first | exact trivial | exact rfl | exact ⟨_, rfl, rfl, rfl, Nat.le_refl _, fun _ _ => rfl⟩ | exact ⟨_, rfl, rfl, rfl, fun _ _ => rfl⟩ | exact ⟨_, rfl, rfl, rfl⟩ | exact ⟨_, rfl, rfl⟩ | refine ⟨_, rfl, rfl, rfl, by omega, fun k hk => ?_⟩ | refine ⟨?_, ?_⟩ | fail))
    simp only [Int.toNat_natCast, Nat.zero_add]
    rw [← u8_byteI, updB]
    simp only [bytesF, digF]
    by_cases hk2 : k = i
    · subst hk2
      rw [if_pos rfl, if_pos (Nat.lt_succ_self k)]
      rfl
    · rw [if_neg hk2]
      by_cases hk3 : k < i
      · rw [if_pos hk3, if_pos (by omega)]
      · rw [if_neg hk3, if_neg (by omega)]
  · (refine wGo ?_; ((conv => arg 5; whnf); repeat (refine xS ?_; conv => arg 5; whnf)))
    have h1' : i = w := (by (try simp only [ww] at *); omega)
    subst h1'
    have hf : ∀ k, k < i → bytesF (digF n i) k = rowB (numL n i) k := fun k hk => by
      rw [← rowB_numL n hk]; simp [bytesF, digF, hk]
    refine wD <| cutE <| loopX <| blockX <| cutG <| Tri.ent (Ent.chg0 (c := 2) (g := rowB (numL n i)) rfl hf) <| Tri.of Tryz.mixed Tryz.T_ok ?_
    (refine wBegin ?_; ((conv => arg 5; whnf); repeat (refine xS ?_; conv => arg 5; whnf)))
    exact wD (Ends.made (.inr rfl) (Ent.refl _) rfl (Nat.le_refl _) rfl)
structure WrM where
  b : List UInt8
  e : Int
def wrM (ty : TypeId) (W : WrM) : Mem := [(0, .cells ty [.slc 1 1 0 W.b.length, .raw (.int .i64 W.e)]), (1, .vec 5 1 W.b.length (rowB W.b))]
def wrP (ty : TypeId) (W : WrM) : AbsP := packP (wrM ty W) True
theorem WrM.opens {P : Program} {C : Ctx} {cd : Code} {slots : List (Option XV)} {mem : Mem} {nx : Nat} {Q : Exit → St → Prop} (ty : TypeId) (W : WrM) (c : Nat) (hc : mem.get c = some (.abs (wrP ty W)))
    (h : Tri P C cd ⟨slots, (c, .cells ty [.slc (nx + 1) 1 0 W.b.length, .raw (.int .i64 W.e)]) :: (nx + 1, .vec 5 1 W.b.length (rowB W.b)) :: mem.del c, nx + 2⟩ Q) : Tri P C cd ⟨slots, mem, nx⟩ Q :=
  Tri.opens (M := wrM ty W) (m := 2) (inv := True) (c := c) hc rfl fun _ => h
theorem WrM.shuts {C : Ctx} {slots : List (Option XV)} {mem : Mem} {nx : Nat} (ty : TypeId) (W : WrM) (c : Nat) {i1 m n : Nat} {er : Int} {f : Nat → List Value} (k0 : mem.get c = some (.cells ty [.slc i1 1 0 m, .raw (.int .i64 er)])) (k1 : mem.get i1 = some (.vec 5 1 n f))
    (hids : Nat.beq c i1 = false) (hm : m = W.b.length) (he : er = W.e) (hle : W.b.length ≤ n) (hf : ∀ i, i < W.b.length → f i = rowB W.b i) : Ent C ⟨slots, mem, nx⟩ ⟨slots, (c, .abs (wrP ty W)) :: mem.dels [c, i1], nx⟩ := by
  subst hm he
  exact Ent.shut2 (S := ⟨slots, mem, nx⟩) (M := wrM ty W) (inv := True) hids trivial rfl rfl rfl k0 k1 rfl ⟨rfl, rfl⟩ ⟨rfl, rfl, hle, hf⟩
theorem WrM.ends {C : Ctx} {T : TyTab} {rs : List ResultVar} {X X' : XV} {e : Exit} {n0 : Nat} {slots : List (Option XV)} {mem : Mem} {nx : Nat} {W0 : WrM} (ty : TypeId) (W : WrM) {i1 m n : Nat} {er : Int} {f : Nat → List Value} (he : e = .normal ∨ e = .ret)
    (k0 : mem.get 0 = some (.cells ty [.slc i1 1 0 m, .raw (.int .i64 er)])) (k1 : mem.get i1 = some (.vec 5 1 n f)) (hids : Nat.beq 0 i1 = false) (hr : resX T ⟨slots, (0, .abs (wrP ty W)) :: mem.dels [0, i1], nx⟩ rs = some X') (hX : X' = X) (hW : W = W0)
    (hm : m = W.b.length) (her : er = W.e) (hle : W.b.length ≤ n) (hf : ∀ i, i < W.b.length → f i = rowB W.b i) : Sx.Ends C T rs 1 n0 ⟨X, [(0, .abs (wrP ty W0))], none⟩ e ⟨slots, mem, nx⟩ := by
  subst hX hW
  exact Ends.shutN he (WrM.shuts ty W 0 k0 k1 hids hm her hle hf) rfl hr rfl
def WrM.put (W : WrM) (b : List UInt8) : WrM := if W.e = 0 then (if (131072 : Int) - (W.b.length : Int) < (b.length : Int) then ⟨W.b, 3⟩ else ⟨W.b ++ b, W.e⟩) else W
theorem put_can (ty : TypeId) (W : WrM) (b : List UInt8) (hW : W.b.length ≤ 1000000) (hb : b.length ≤ 1000000) : Acts Tryz.prog 211 (.abs (wrP ty W)) (.abs (wrP ty (W.put b))) [.row 1 b.length (rowB b)] [] (.tup []) := by
  refine Acts.of Tryz.T_ok Tryz.func211 rfl _ _ _ _ _ rfl rfl rfl (fun C hC => ?_)
  (replace hC : C.n0 = 2 := hC; change Tri _ _ _ ⟨_, _, 2⟩ _)
  refine WrM.opens ty W 0 rfl (Tri.of Tryz.mixed Tryz.T_ok ?_)
  (refine wBegin ?_; ((conv => arg 5; whnf); repeat (refine xS ?_; conv => arg 5; whnf)))
  refine wC (fun h1 => ?_) (fun h1 => ?_)
  · have h1' : ¬ W.e = 0 := by simpa using h1
    (refine wGo ?_; ((conv => arg 5; whnf); repeat (refine xS ?_; conv => arg 5; whnf)))
    refine wD (WrM.ends ty W (.inl rfl) rfl rfl rfl rfl rfl ?_ rfl rfl (Nat.le_refl _) (fun _ _ => rfl))
    rw [WrM.put, if_neg h1']
  · have h1' : W.e = 0 := by simpa using h1
    (refine wGo ?_; ((conv => arg 5; whnf); repeat (refine xS ?_; conv => arg 5; whnf)))
    have e1 : IntKind.i64.wrap (131072 - (W.b.length : Int)) = 131072 - (W.b.length : Int) := (by (try simp only [ww] at *); omega)
    simp only [e1]
    refine wC (fun h2 => ?_) (fun h2 => ?_)
    · have h2' : (131072 : Int) - (W.b.length : Int) < (b.length : Int) := of_decide_eq_true h2
      (refine wGo ?_; ((conv => arg 5; whnf); repeat (refine xS ?_; conv => arg 5; whnf)))
      refine wD (WrM.ends ty ⟨W.b, 3⟩ (.inl rfl) rfl rfl rfl rfl rfl ?_ rfl rfl (Nat.le_refl _) (fun _ _ => rfl))
      rw [WrM.put, if_pos h1', if_pos h2']
    · have h2' : ¬ (131072 : Int) - (W.b.length : Int) < (b.length : Int) := of_decide_eq_false h2
      (refine wGo ?_; ((conv => arg 5; whnf); repeat (refine xS ?_; conv => arg 5; whnf)))
      (refine wP _ _ (append_op Tryz.T_ok rfl rfl rfl rfl rfl [3, 1] (old_vec rfl rfl (Nat.le_refl _) rfl) (new_ro (lo := 0) rfl rfl (Nat.le_of_eq (Nat.zero_add _)) rfl) rfl (fun _ _ => rfl) (by simp only [maxLen]; omega) (by dsimp only; omega)) ?_; ((conv => arg 5; whnf); repeat (refine xS ?_; conv => arg 5; whnf)))
      refine wD (WrM.ends ty ⟨W.b ++ b, W.e⟩ (.inl rfl) rfl rfl rfl rfl rfl ?_ (List.length_append).symm rfl (Nat.le_of_eq List.length_append) (fun i hi => ?_))
      · rw [WrM.put, if_pos h1', if_neg h2']
      · exact rowB_join rfl (fun _ _ => rfl) (fun _ _ => by rw [Nat.zero_add]) (by rw [← List.length_append]; exact hi)
def FitsN (n : Int) (w : Nat) : Prop := 1 ≤ w ∧ w ≤ 7 ∧ 0 ≤ n ∧ n < 2 ^ (8 * w)
theorem fits_shr {n : Int} {w : Nat} (h : FitsN n w) : shrI .i64 n ((8 * w : Nat) : Int) = 0 := by
  obtain ⟨h1, h2, h3, h4⟩ := h
  have hb : IntKind.i64.bits = 64 := rfl
  have e : min (((8 * w : Nat) : Int).toNat) IntKind.i64.bits = 8 * w := by rw [hb]; omega
  rw [shrI, e, Int.fdiv_eq_ediv_of_nonneg _ (Int.le_of_lt (Int.pow_pos (by decide)))]
  exact Int.ediv_eq_zero_of_lt h3 h4
theorem wnum_can (ty : TypeId) (W : WrM) (n : Int) (w : Nat) (hn : FitsN n w) (hW : W.b.length ≤ 1000000) : Acts Tryz.prog 183 (.abs (wrP ty W)) (.abs (wrP ty (W.put (numL n w)))) [.plain (.one (.raw (.int .i64 n))), .plain (.one (.raw (.int .i64 w)))] [] (.tup []) := by
  obtain ⟨f1, f2, f3, f4⟩ := id hn
  refine Acts.of Tryz.T_ok Tryz.func183 rfl _ _ _ _ _ rfl rfl rfl (fun C hC => ?_)
  (replace hC : C.n0 = 3 := hC; change Tri _ _ _ ⟨_, _, 3⟩ _)
  refine WrM.opens ty W 0 rfl (Tri.block ?_)
  (refine Tri.cut 1 Tryz.mixed Tryz.T_ok ?_; ((conv => arg 5; whnf); repeat (refine xS ?_; conv => arg 5; whnf)))
  refine wD <| cutG <| Tri.cond (b := (W.e != 0)) rfl (fun h1 => ?_) (fun h1 => ?_)
  · have h1' : ¬ W.e = 0 := by simpa using h1
    refine Tri.skip (blockN (WrM.ends ty W (.inl rfl) rfl rfl rfl rfl rfl ?_ rfl rfl (Nat.le_refl _) (fun _ _ => rfl)))
    rw [WrM.put, if_neg h1']
  · have e8 : IntKind.i64.wrap (8 * (w : Int)) = ((8 * w : Nat) : Int) := (by (try simp only [ww] at *); omega)
    refine Tri.ent (WrM.shuts ty W 0 rfl rfl rfl rfl rfl (Nat.le_refl _) (fun _ _ => rfl)) (Tri.of Tryz.mixed Tryz.T_ok ?_)
    (refine wBegin ?_; ((conv => arg 5; whnf); repeat (refine xS ?_; conv => arg 5; whnf)))
    (refine wFd ?_ ?_; (first | refine decide_eq_false ?_ | rw [beq_eq_false_iff_ne] | rw [bne_eq_false_iff_eq]); exact (by (try simp only [ww] at *); omega); refine wGo ?_; ((conv => arg 5; whnf); repeat (refine xS ?_; conv => arg 5; whnf)))
    (refine wFd ?_ ?_; (first | refine decide_eq_false ?_ | rw [beq_eq_false_iff_ne] | rw [bne_eq_false_iff_eq]); exact (by (try simp only [ww] at *); omega); refine wGo ?_; ((conv => arg 5; whnf); repeat (refine xS ?_; conv => arg 5; whnf)))
    (refine wFd ?_ ?_; (first | refine decide_eq_false ?_ | rw [beq_eq_false_iff_ne] | rw [bne_eq_false_iff_eq]); exact (by (try simp only [ww] at *); omega); refine wGo ?_; ((conv => arg 5; whnf); repeat (refine xS ?_; conv => arg 5; whnf)))
    simp only [e8]
    (repeat (refine wN ?_ ?_; exact (by (try simp only [ww] at *); omega); refine wGo ?_; ((conv => arg 5; whnf); repeat (refine xS ?_; conv => arg 5; whnf))))
    simp only [fits_shr hn]
    (refine wFd rfl ?_; refine wGo ?_; ((conv => arg 5; whnf); repeat (refine xS ?_; conv => arg 5; whnf)))
    (apply wP; exact (call_op rfl (entersB_of Tryz.func212 (by kernel_rfl)) rfl ((digits_can n w f2).at [] ⟨lend_plain rfl, lend_plain rfl, trivial⟩ trivial)); ((conv => arg 5; whnf); repeat (refine xS ?_; conv => arg 5; whnf)))
    (apply wP; exact (call_op rfl (entersB_of Tryz.func211 (by kernel_rfl)) rfl ((put_can ty W (numL n w) hW (by rw [numL_length]; omega)).at [36] rfl rfl rfl ⟨lend_vecN (numL_length n w).symm rfl rfl (by rw [numL_length]; omega) (fun i _ => by rw [Nat.zero_add]), trivial⟩ trivial)); ((conv => arg 5; whnf); repeat (refine xS ?_; conv => arg 5; whnf)))
    exact wD (blockN (Ends.shutN (.inl rfl) (Ent.refl _) rfl rfl rfl))
def WrM.hash (W : WrM) (h : H8) : WrM := W.put h.l
theorem whash_can (ty : TypeId) (W : WrM) (h : H8) (hW : W.b.length ≤ 1000000) : Acts Tryz.prog 213 (.abs (wrP ty W)) (.abs (wrP ty (W.put h.l))) [.plain h.x] [] (.tup []) := by
  refine Acts.of Tryz.T_ok Tryz.func213 rfl _ _ _ _ _ rfl rfl rfl (fun C hC => ?_)
  (replace hC : C.n0 = 2 := hC; change Tri _ _ _ ⟨_, _, 2⟩ _)
  refine Tri.of Tryz.mixed Tryz.T_ok ?_
  (refine wBegin ?_; ((conv => arg 5; whnf); repeat (refine xS ?_; conv => arg 5; whnf)))
  (apply wP; exact (call_op rfl (entersB_of Tryz.func211 (by kernel_rfl)) rfl ((put_can ty W h.l hW (by simp [H8.l_len])).at [2] rfl rfl rfl ⟨lend_sla rfl rfl (fun _ _ => rfl) rfl, trivial⟩ trivial)); ((conv => arg 5; whnf); repeat (refine xS ?_; conv => arg 5; whnf)))
  exact wD (Ends.shutN (.inl rfl) (Ent.refl _) rfl rfl rfl)
end Go.Proofs.YtnpkdoggfnlapaaGreatDoor
namespace Go.Proofs.YtnpkdoggfnlapaaGreatDoor
set_option maxRecDepth 100000
open Go.Sx
def WrM.puts (W : WrM) (cs : List (List UInt8)) : WrM := cs.foldl WrM.put W
theorem puts_snoc (W : WrM) (cs : List (List UInt8)) (c : List UInt8) : W.puts (cs ++ [c]) = (W.puts cs).put c := by simp [WrM.puts]
theorem put_len {W : WrM} {b : List UInt8} (h : W.b.length ≤ 131072) : (W.put b).b.length ≤ 131072 := by
  unfold WrM.put
  split
  · split
    · exact h
    · rename_i h2
      simp only [List.length_append]
      omega
  · exact h
theorem puts_len : ∀ {cs : List (List UInt8)} {W : WrM}, W.b.length ≤ 131072 → (W.puts cs).b.length ≤ 131072
  | [], _, h => h
  | c :: cs, W, h => puts_len (cs := cs) (put_len (b := c) h)
theorem puts_ok : ∀ {cs : List (List UInt8)} {W : WrM}, W.e = 0 → W.b.length + cs.flatten.length ≤ 131072 → W.puts cs = ⟨W.b ++ cs.flatten, 0⟩
  | [], W, h, _ => by
    cases W
    simp only at h
    simp [WrM.puts, h]
  | c :: cs, W, h, hl => by
    simp only [List.flatten_cons, List.length_append] at hl
    have e : W.put c = ⟨W.b ++ c, 0⟩ := by
      rw [WrM.put, if_pos h, if_neg (by omega), h]
    show (W.put c).puts cs = _
    rw [e, puts_ok rfl (by simp only [List.length_append]; omega)]
    simp
def hashesL (p : Nat → H8) (n : Nat) : List (List UInt8) := (List.range n).map fun i => (p i).l
theorem hashesL_succ (p : Nat → H8) (n : Nat) : hashesL p (n + 1) = hashesL p n ++ [(p n).l] := by simp [hashesL, List.range_succ]
theorem row_can (ty : TypeId) (W : WrM) (p : Nat → H8) (n : Nat) (hn : n ≤ 1000000000) (hW : W.b.length ≤ 131072) : Acts Tryz.prog 215 (.abs (wrP ty W)) (.abs (wrP ty (W.puts (hashesL p n)))) [.row 8 n (hashF p)] [] (.tup []) := by
  refine Acts.of Tryz.T_ok Tryz.func215 rfl _ _ _ _ _ rfl rfl rfl (fun C hC => ?_)
  (replace hC : C.n0 = 2 := hC; change Tri _ _ _ ⟨_, _, 2⟩ _)
  (refine Tri.cut 1 Tryz.mixed Tryz.T_ok ?_; ((conv => arg 5; whnf); repeat (refine xS ?_; conv => arg 5; whnf)))
  refine wD <| cutG <| Tri.block ?_
  refine Tri.loop (α := { i : Nat // i ≤ n }) (fun i => ⟨[some (XV.sv (.ptr 0 0 0 0)), none, none, none, none, none, some (XV.sv (.slc 1 8 0 n)), some (XV.int .i64 n), some (XV.int .i64 i.1)] ++ List.replicate 9 none, [(0, .abs (wrP ty (W.puts (hashesL p i.1)))), (1, .ro 8 n (hashF p))], 2⟩) (fun i => n - i.1) ⟨0, Nat.zero_le _⟩ ?_ ?_
  · ((try dsimp only); refine Ent.renC [0, 1] hC ?_ ?_ <;> repeat' (first | exact trivial | exact rfl | exact ⟨_, rfl, rfl, rfl, Nat.le_refl _, fun _ _ => rfl⟩ | exact ⟨_, rfl, rfl, rfl, fun _ _ => rfl⟩ | exact ⟨_, rfl, rfl, rfl⟩ | exact ⟨_, rfl, rfl⟩ | refine ⟨_, rfl, rfl, rfl, by omega, fun k hk => ?_⟩ | refine ⟨?_, ?_⟩ | fail))
  rintro ⟨i, hi⟩
  dsimp only
  (refine Tri.cut 2 Tryz.mixed Tryz.T_ok ?_; ((conv => arg 5; whnf); repeat (refine xS ?_; conv => arg 5; whnf)))
  refine wC (fun h1 => ?_) (fun h1 => ?_)
  · (refine wGo ?_; ((conv => arg 5; whnf); repeat (refine xS ?_; conv => arg 5; whnf)))
    have h1' : i < n := (by (try simp only [ww] at *); omega)
    have hw : IntKind.i64.wrap ((i : Int) + 1) = ((i + 1 : Nat) : Int) := (by (try simp only [ww] at *); omega)
    have hp := puts_len (cs := hashesL p i) hW
    refine wD <| cutG <| Tri.seq <| Tri.block <| Tri.of Tryz.mixed Tryz.T_ok ?_
    (refine wBegin ?_; ((conv => arg 5; whnf); repeat (refine xS ?_; conv => arg 5; whnf)))
    (repeat (refine wN ?_ ?_; exact (by (try simp only [ww] at *); omega); refine wGo ?_; ((conv => arg 5; whnf); repeat (refine xS ?_; conv => arg 5; whnf))))
    simp only [Nat.zero_add, Int.toNat_natCast]
    (apply wP; exact (call_op rfl (entersB_of Tryz.func213 (by kernel_rfl)) rfl ((whash_can ty (W.puts (hashesL p i)) (p i) (by omega)).at [] rfl rfl rfl ⟨lend_plain rfl, trivial⟩ trivial)); ((conv => arg 5; whnf); repeat (refine xS ?_; conv => arg 5; whnf)))
    refine wD <| blockN <| cutG <| Tri.of Tryz.mixed Tryz.T_ok ?_
    (refine wBegin ?_; ((conv => arg 5; whnf); repeat (refine xS ?_; conv => arg 5; whnf)))
    refine wD <| loopN ⟨⟨i + 1, h1'⟩, by dsimp only; omega, ?_⟩
    rw [hw]
    dsimp only
    rw [hashesL_succ, puts_snoc]
    ((try dsimp only); refine Ent.renC [0, 1] hC ?_ ?_ <;> repeat' (first | exact trivial | exact rfl | exact ⟨_, rfl, rfl, rfl, Nat.le_refl _, fun _ _ => rfl⟩ | exact ⟨_, rfl, rfl, rfl, fun _ _ => rfl⟩ | exact ⟨_, rfl, rfl, rfl⟩ | exact ⟨_, rfl, rfl⟩ | refine ⟨_, rfl, rfl, rfl, by omega, fun k hk => ?_⟩ | refine ⟨?_, ?_⟩ | fail))
  · (refine wGo ?_; ((conv => arg 5; whnf); repeat (refine xS ?_; conv => arg 5; whnf)))
    have h1' : i = n := (by (try simp only [ww] at *); omega)
    subst h1'
    exact wD <| cutE <| loopX <| blockX (Ends.shutN (.inl rfl) (Ent.refl _) rfl rfl rfl)
def SigM.parts (s : SigM) : List (List UInt8) := numL s.idx 1 :: (hashesL s.opn 16 ++ (hashesL s.shut 16 ++ hashesL s.path 3))
end Go.Proofs.YtnpkdoggfnlapaaGreatDoor
namespace Go.Proofs.YtnpkdoggfnlapaaGreatDoor
set_option maxRecDepth 100000
open Go.Sx
def OutM.parts (o : OutM) : List (List UInt8) := [o.to.l, numL o.amt.toInt 7]
def FwdM.parts (f : FwdM) : List (List UInt8) := [numL f.side.toInt 1, numL f.acct.toInt 2, f.owner.l, numL f.amt.toInt 7]
def InM.parts (x : InM) : List (List UInt8) := x.pt.tx.l :: numL x.pt.no.toInt 1 :: x.key.l :: x.sig.parts
end Go.Proofs.YtnpkdoggfnlapaaGreatDoor
namespace Go.Proofs.YtnpkdoggfnlapaaGreatDoor
set_option maxRecDepth 100000
open Go.Sx
theorem wend_can (ty : TypeId) (b : List UInt8) (hb : b.length ≤ 1000000) : Does Tryz.prog 190 [(.abs (wrP ty ⟨b, 0⟩), .abs (wrP ty ⟨b, 0⟩))] [] [] (.tup [.one (.slc 0 1 0 b.length), .one (.raw (.int .i64 0))]) (some (.vec 5 1 b.length (rowB b))) := by
  refine Does.of Tryz.T_ok Tryz.func190 rfl _ _ _ _ _ rfl rfl rfl 18 (fun C hC => ?_)
  (replace hC : C.n0 = 1 := hC; change Tri _ _ _ ⟨_, _, 1⟩ _)
  refine WrM.opens ty ⟨b, 0⟩ 0 rfl (Tri.of Tryz.mixed Tryz.T_ok ?_)
  (refine wBegin ?_; ((conv => arg 5; whnf); repeat (refine xS ?_; conv => arg 5; whnf)))
  (refine wFd rfl ?_; refine wGo ?_; ((conv => arg 5; whnf); repeat (refine xS ?_; conv => arg 5; whnf)))
  (apply wP; exact (call_op rfl (entersB_of Tryz.func208 (by kernel_rfl)) rfl ((clone_can b (Nat.le_trans hb (by decide))).at [2] ⟨lend_vec0 rfl rfl, trivial⟩ trivial)); ((conv => arg 5; whnf); repeat (refine xS ?_; conv => arg 5; whnf)))
  exact wD (Ends.does (.inr rfl) (WrM.shuts ty ⟨b, 0⟩ 0 rfl rfl rfl rfl rfl (Nat.le_refl _) (fun _ _ => rfl)) rfl rfl (Nat.le_of_ble_eq_true rfl) rfl)
abbrev twr : TypeId := 260
theorem hashesL_flat (p : Nat → H8) : ∀ n, (hashesL p n).flatten.length = 8 * n
  | 0 => rfl
  | n + 1 => by rw [hashesL_succ, List.flatten_append, List.length_append, hashesL_flat p n]; simp [H8.l_len]; omega
end Go.Proofs.YtnpkdoggfnlapaaGreatDoor
namespace Go.Proofs.YtnpkdoggfnlapaaGreatDoor
set_option maxRecDepth 100000
open Go.Sx
theorem part_here {M : Mem} {rd : List Nat} {q n i sz cp k : Nat} {ln : Nat → Nat} {g : Nat → Nat → List Value} {ad : Nat → Option Addr} {cell : List Value} {f : Nat → List Value} (hm : M.get q = some (.ext (PartsAt sz n ln g ad))) (hrd : nmem q rd = true) (hi : i < n) (hc : cell = [.slice (ad i) (ln i) cp]) (hk : ln i = k) (hf : g i = f) : PartIn M rd sz cell k f :=
  ⟨q, n, ln, g, ad, i, cp, hm, hrd, hi, hc, hk, hf⟩
theorem parts_cons {M : Mem} {rd : List Nat} {q1 q2 cp0 n : Nat} {ad0 : Option Addr} {ad : Nat → Option Addr} {cp : Nat → Nat} {e : List UInt8} {bss : List (List UInt8)} {F : Nat → List Value}
    (h1 : M.get q1 = some (.ext (PartsAt 1 1 (fun _ => e.length) (fun _ => rowB e) (fun _ => ad0)))) (r1 : nmem q1 rd = true) (h2 : M.get q2 = some (.ext (PartsAt 1 bss.length (fun i => (bss.getD i []).length) (fun i => rowB (bss.getD i [])) ad))) (r2 : nmem q2 rd = true)
    (hF : F = joinF (cutF [.slice ad0 e.length cp0] 1) 1 (fun i => [.slice (ad (0 + i)) ((bss.getD (0 + i) []).length) (cp (0 + i))])) (hn : n = bss.length) : ∀ i, i < n + 1 → PartIn M rd 1 (F i) (((e :: bss).getD i []).length) (rowB ((e :: bss).getD i [])) := by
  subst hF hn
  intro i hi
  cases i with
  | zero => exact part_here (i := 0) h1 r1 (by decide) rfl rfl rfl
  | succ i =>
    refine part_here (i := i) (cp := cp i) h2 r2 (by omega) ?_ rfl rfl
    simp only [joinF, nblt, show ¬ i + 1 < 1 by omega, decide_false, cond_false, Nat.add_sub_cancel, Nat.zero_add]
end Go.Proofs.YtnpkdoggfnlapaaGreatDoor
namespace Go.Proofs.YtnpkdoggfnlapaaGreatDoor
set_option maxRecDepth 100000
open Go.Sx
def FwdM.x (f : FwdM) : CV := .agg (f.cells.map .raw)
end Go.Proofs.YtnpkdoggfnlapaaGreatDoor
namespace Go.Proofs.YtnpkdoggfnlapaaGreatDoor
set_option maxRecDepth 100000
open Go.Sx
end Go.Proofs.YtnpkdoggfnlapaaGreatDoor
namespace Go.Proofs.YtnpkdoggfnlapaaGreatDoor
set_option maxRecDepth 100000
open Go.Sx
theorem noPar_can (p : ParM) (hl : p.keys.length ≤ 1000000000) : Reads Tryz.prog 108 [.box p.ac] [] (XV.bool (parZ p)) := by
  refine Reads.of Tryz.T_ok Tryz.func108 rfl _ _ _ rfl rfl (fun C hC => ?_)
  (replace hC : C.n0 = 1 := hC; change Tri _ _ _ ⟨_, _, 1⟩ _)
  refine Tri.of Tryz.mixed Tryz.T_ok ?_
  (refine wBegin ?_; ((conv => arg 5; whnf); repeat (refine xS ?_; conv => arg 5; whnf)))
  refine wC (fun h1 => ?_) (fun h1 => ?_)
  · (refine wGo ?_; ((conv => arg 5; whnf); repeat (refine xS ?_; conv => arg 5; whnf)))
    refine wC (fun h2 => ?_) (fun h2 => ?_)
    · (refine wGo ?_; ((conv => arg 5; whnf); repeat (refine xS ?_; conv => arg 5; whnf)))
      refine wC (fun h3 => ?_) (fun h3 => ?_)
      · (refine wGo ?_; ((conv => arg 5; whnf); repeat (refine xS ?_; conv => arg 5; whnf)))
        exact wD (Ends.plain (.inr rfl) rfl (by rw [parZ, h1, h2, h3]; rfl))
      · (refine wGo ?_; ((conv => arg 5; whnf); repeat (refine xS ?_; conv => arg 5; whnf)))
        exact wD (Ends.plain (.inr rfl) rfl (by rw [parZ, h1, h2, h3]; rfl))
    · (refine wGo ?_; ((conv => arg 5; whnf); repeat (refine xS ?_; conv => arg 5; whnf)))
      exact wD (Ends.plain (.inr rfl) rfl (by rw [parZ, h1, h2]; rfl))
  · (refine wGo ?_; ((conv => arg 5; whnf); repeat (refine xS ?_; conv => arg 5; whnf)))
    exact wD (Ends.plain (.inr rfl) rfl (by rw [parZ, h1]; rfl))
theorem sum_zero (a b : Nat) : (((a + b : Nat) : Int) == 0) = (((a : Int) == 0) && ((b : Int) == 0)) := by
  rw [Bool.eq_iff_iff, Bool.and_eq_true, beq_iff_eq, beq_iff_eq, beq_iff_eq]; omega
theorem noCert_can (c : CertM) (h1 : c.outs.length ≤ 1000000000) (h2 : c.sigs.length ≤ 1000000000) : Reads Tryz.prog 109 [.box c.ac] [] (XV.bool (certZ c)) := by
  refine Reads.of Tryz.T_ok Tryz.func109 rfl _ _ _ rfl rfl (fun C hC => ?_)
  (replace hC : C.n0 = 2 := hC; change Tri _ _ _ ⟨_, _, 2⟩ _)
  refine Tri.of Tryz.mixed Tryz.T_ok ?_
  (refine wBegin ?_; ((conv => arg 5; whnf); repeat (refine xS ?_; conv => arg 5; whnf)))
  refine wC (fun h1 => ?_) (fun h1 => ?_)
  · (refine wGo ?_; ((conv => arg 5; whnf); repeat (refine xS ?_; conv => arg 5; whnf)))
    refine wC (fun h2 => ?_) (fun h2 => ?_)
    · (refine wGo ?_; ((conv => arg 5; whnf); repeat (refine xS ?_; conv => arg 5; whnf)))
      refine wC (fun h3 => ?_) (fun h3 => ?_)
      · (refine wGo ?_; ((conv => arg 5; whnf); repeat (refine xS ?_; conv => arg 5; whnf)))
        (refine wP _ _ (eq_op hashE rfl c.fin zeroH rfl rfl) ?_; ((conv => arg 5; whnf); repeat (refine xS ?_; conv => arg 5; whnf)))
        refine wC (fun h4 => ?_) (fun h4 => ?_)
        · (refine wGo ?_; ((conv => arg 5; whnf); repeat (refine xS ?_; conv => arg 5; whnf)))
          (refine wP _ _ (eq_op hashE rfl c.root zeroH rfl rfl) ?_; ((conv => arg 5; whnf); repeat (refine xS ?_; conv => arg 5; whnf)))
          refine wC (fun h5 => ?_) (fun h5 => ?_)
          · (refine wGo ?_; ((conv => arg 5; whnf); repeat (refine xS ?_; conv => arg 5; whnf)))
            refine wC (fun h6 => ?_) (fun h6 => ?_)
            · (refine wGo ?_; ((conv => arg 5; whnf); repeat (refine xS ?_; conv => arg 5; whnf)))
              exact wD (Ends.plain (.inr rfl) rfl (by rw [certZ, sum_zero, h1, h2, h3, zeroB, h4, zeroB, h5, h6]; rfl))
            · (refine wGo ?_; ((conv => arg 5; whnf); repeat (refine xS ?_; conv => arg 5; whnf)))
              exact wD (Ends.plain (.inr rfl) rfl (by rw [certZ, sum_zero, h1, h2, h3, zeroB, h4, zeroB, h5, h6]; rfl))
          · (refine wGo ?_; ((conv => arg 5; whnf); repeat (refine xS ?_; conv => arg 5; whnf)))
            exact wD (Ends.plain (.inr rfl) rfl (by rw [certZ, h1, h2, h3, zeroB, h4, zeroB, h5]; rfl))
        · (refine wGo ?_; ((conv => arg 5; whnf); repeat (refine xS ?_; conv => arg 5; whnf)))
          exact wD (Ends.plain (.inr rfl) rfl (by rw [certZ, h1, h2, h3, zeroB, h4]; rfl))
      · (refine wGo ?_; ((conv => arg 5; whnf); repeat (refine xS ?_; conv => arg 5; whnf)))
        exact wD (Ends.plain (.inr rfl) rfl (by rw [certZ, h1, h2, h3]; rfl))
    · (refine wGo ?_; ((conv => arg 5; whnf); repeat (refine xS ?_; conv => arg 5; whnf)))
      exact wD (Ends.plain (.inr rfl) rfl (by rw [certZ, h1, h2]; rfl))
  · (refine wGo ?_; ((conv => arg 5; whnf); repeat (refine xS ?_; conv => arg 5; whnf)))
    exact wD (Ends.plain (.inr rfl) rfl (by rw [certZ, h1]; rfl))
end Go.Proofs.YtnpkdoggfnlapaaGreatDoor
namespace Go.Sx
end Go.Sx
namespace Go.Proofs.YtnpkdoggfnlapaaGreatDoor
set_option maxRecDepth 100000
open Go.Sx
theorem drop_pre {E : Type} (pre l : List E) (k : Nat) : (pre ++ l).drop (pre.length + k) = l.drop k := by rw [← List.drop_drop, List.drop_left]
theorem hashesL_zero (p : Nat → H8) : hashesL p 0 = [] := rfl
theorem tab_hash_mid (p : Nat → H8) : ∀ (m i n : Nat) (post : List Value), n < m → (((tabF (hashF p) i m ++ post).drop (n * 8)).take 8) = (p (i + n)).cells
  | 0, _, _, _, h => absurd h (Nat.not_lt_zero _)
  | m + 1, i, 0, post, _ => rfl
  | m + 1, i, n + 1, post, h => by
    have e : (n + 1) * 8 = (p i).cells.length + n * 8 := by show _ = 8 + n * 8; omega
    show (((p i).cells ++ tabF (hashF p) (i + 1) m ++ post).drop ((n + 1) * 8)).take 8 = _
    rw [List.append_assoc, e, drop_pre, tab_hash_mid p m (i + 1) n post (by omega)]
    rw [show i + 1 + n = i + (n + 1) by omega]
theorem tab_hash_at (p : Nat → H8) (j : Nat) {m n off l : Nat} {pre post cs : List Value} (hcs : cs = pre ++ (tabF (hashF p) 0 m ++ post)) (hn : n < m) (hj : j = pre.length) (hoff : off = j + n * 8) (hl : l = 8) : ((cs.map SV.raw).drop off).take (l * 1) = (tabF (rowB (p n).l) 0 l).map .raw := by
  subst hcs hoff hj hl
  rw [← List.map_drop, ← List.map_take, drop_pre, tab_hash_mid p m 0 n post hn, Nat.zero_add]
  rfl
end Go.Proofs.YtnpkdoggfnlapaaGreatDoor
namespace Go.Proofs.YtnpkdoggfnlapaaGreatDoor
set_option maxRecDepth 100000
open Go.Sx
theorem rowB_joinL {a b : List UInt8} {f g : Nat → List Value} {m : Nat} (hm : m = a.length) (hf : ∀ i, i < a.length → f i = rowB a i) (hg : ∀ i, i < b.length → g i = rowB b i) : ∀ i, i < (a ++ b).length → joinF f m g i = rowB (a ++ b) i := fun i hi => rowB_join hm hf hg (by rw [← List.length_append]; exact hi)
end Go.Proofs.YtnpkdoggfnlapaaGreatDoor
namespace Go.Proofs.YtnpkdoggfnlapaaGreatDoor
set_option maxRecDepth 100000
open Go.Sx
end Go.Proofs.YtnpkdoggfnlapaaGreatDoor
