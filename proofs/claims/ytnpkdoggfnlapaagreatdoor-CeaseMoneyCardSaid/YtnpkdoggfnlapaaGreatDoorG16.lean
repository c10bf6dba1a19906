/- Parts Ug Uh Hh Hi Hj Hk Hl Hm Hn Ho. -/
import Derived.Test.YtnpkdoggfnlapaaGreatDoorG13
import Derived.Test.YtnpkdoggfnlapaaGreatDoorG07
import Derived.Test.YtnpkdoggfnlapaaGreatDoorG15
set_option linter.unusedSimpArgs false
set_option linter.unusedVariables false
namespace Go.Proofs.YtnpkdoggfnlapaaGreatDoor
set_option maxRecDepth 100000
open Go.Sx
abbrev H8.cv (h : H8) : CV := .agg (h.cells.map .raw)
def H8.l (h : H8) : List UInt8 := [h.b0, h.b1, h.b2, h.b3, h.b4, h.b5, h.b6, h.b7]
def ltL : List UInt8 → List UInt8 → Bool
  | x :: xs, y :: ys => if x = y then ltL xs ys else decide (x < y)
  | _, _ => false
def lessSt (a b : H8) (i : Nat) : St := ⟨[none, none, some (XV.sv (.ptr 0 0 0 0)), some (XV.sv (.ptr 1 0 0 0)), some (XV.bool false), some (XV.int .i64 i)] ++ List.replicate 18 none, [(0, .cells 29 (a.cells.map .raw)), (1, .cells 29 (b.cells.map .raw))], 2⟩
theorem u8_ne {x y : UInt8} : ((x.toNat : Int) != (y.toNat : Int)) = !decide (x = y) := by
  by_cases h : x = y
  · subst h; simp
  · have : (x.toNat : Int) ≠ (y.toNat : Int) := fun e => h (UInt8.toNat_inj.1 (by omega))
    simp [h, this]
set_option maxHeartbeats 2000000 in
set_option maxRecDepth 100000 in
theorem refLess_spec (a b : H8) (M : Mem) (d : Nat) : CallSpec Tryz.prog 216 [a.cv, b.cv] M d { v := XV.bool (ltL a.l b.l) } [] := by
  refine spec_pureT Tryz.T_ok Tryz.func216 rfl [a.cv, b.cv] _ rfl rfl (fun C hC => ?_) M d
  have hC0 : ∀ i, i < C.n0 → ([0, 1] : List Nat)[i]? = some i := fun i hi => by rw [hC] at hi; omega
  have hC1 : C.n0 ≤ 2 := by rw [hC]; decide
  (refine Tri.cut 1 Tryz.mixed Tryz.T_ok ?_; ((conv => arg 5; whnf); repeat (refine xS ?_; conv => arg 5; whnf)))
  refine wD <| cutG <| Tri.seq ?_
  (refine Tri.cut 1 Tryz.mixed Tryz.T_ok ?_; ((conv => arg 5; whnf); repeat (refine xS ?_; conv => arg 5; whnf)))
  refine wD <| cutG <| Tri.block ?_
  refine Tri.loop (α := { i : Nat // i ≤ 8 ∧ ltL a.l b.l = ltL (a.l.drop i) (b.l.drop i) }) (fun i => lessSt a b i.1) (fun i => 8 - i.1) ⟨0, by decide, rfl⟩ ?_ ?_
  · exact Ent.ren [0, 1] (by decide) rfl hC0 hC1 rfl ⟨rfl, rfl, rfl, rfl, trivial⟩ ⟨⟨_, rfl, rfl, rfl⟩, ⟨_, rfl, rfl, rfl⟩, trivial⟩
  rintro ⟨i, hi, hlt⟩
  dsimp only
  have hcases : i = 8 ∨ i = 0 ∨ i = 1 ∨ i = 2 ∨ i = 3 ∨ i = 4 ∨ i = 5 ∨ i = 6 ∨ i = 7 := by omega
  rcases hcases with rfl | h
  · (refine Tri.cut 1 Tryz.mixed Tryz.T_ok ?_; ((conv => arg 5; whnf); repeat (refine xS ?_; conv => arg 5; whnf)))
    refine wD <| cutE <| loopX <| blockX <| cutG <| Tri.of Tryz.mixed Tryz.T_ok ?_
    (refine wBegin ?_; ((conv => arg 5; whnf); repeat (refine xS ?_; conv => arg 5; whnf)))
    refine Ends.plain (.inr rfl) rfl ?_
    rw [hlt]
    rfl
  rcases h with rfl | rfl | rfl | rfl | rfl | rfl | rfl | rfl
  all_goals
    (refine Tri.cut 1 Tryz.mixed Tryz.T_ok ?_; ((conv => arg 5; whnf); repeat (refine xS ?_; conv => arg 5; whnf)))
    refine wD <| cutG <| Tri.seq <| Tri.block <| Tri.of Tryz.mixed Tryz.T_ok ?_
    (refine wBegin ?_; ((conv => arg 5; whnf); repeat (refine xS ?_; conv => arg 5; whnf)))
    refine wC (fun h1 => ?_) (fun h1 => ?_)
    · (refine wGo ?_; ((conv => arg 5; whnf); repeat (refine xS ?_; conv => arg 5; whnf)))
      refine wD <| blockR <| cutR <| loopR <| blockR <| cutR <| Ends.plain (.inr rfl) rfl ?_
      rw [hlt]
      simp only [u8_ne, Bool.not_eq_true', decide_eq_false_iff_not] at h1
      simp [H8.l, ltL, h1, UInt8.lt_iff_toNat_lt]
    · (refine wGo ?_; ((conv => arg 5; whnf); repeat (refine xS ?_; conv => arg 5; whnf)))
      refine wD <| blockN <| cutG <| Tri.of Tryz.mixed Tryz.T_ok ?_
      (refine wBegin ?_; ((conv => arg 5; whnf); repeat (refine xS ?_; conv => arg 5; whnf)))
      simp only [u8_ne, Bool.not_eq_false', decide_eq_true_eq] at h1
      refine wD <| loopN ?_
      first |
        exact ⟨⟨1, by decide, by rw [hlt]; simp [H8.l, ltL, h1]⟩, by simp, Ent.ren [0, 1] (by decide) rfl hC0 hC1 rfl ⟨rfl, rfl, rfl, rfl, trivial⟩ ⟨⟨_, rfl, rfl, rfl⟩, ⟨_, rfl, rfl, rfl⟩, trivial⟩⟩ |
        exact ⟨⟨2, by decide, by rw [hlt]; simp [H8.l, ltL, h1]⟩, by simp, Ent.ren [0, 1] (by decide) rfl hC0 hC1 rfl ⟨rfl, rfl, rfl, rfl, trivial⟩ ⟨⟨_, rfl, rfl, rfl⟩, ⟨_, rfl, rfl, rfl⟩, trivial⟩⟩ |
        exact ⟨⟨3, by decide, by rw [hlt]; simp [H8.l, ltL, h1]⟩, by simp, Ent.ren [0, 1] (by decide) rfl hC0 hC1 rfl ⟨rfl, rfl, rfl, rfl, trivial⟩ ⟨⟨_, rfl, rfl, rfl⟩, ⟨_, rfl, rfl, rfl⟩, trivial⟩⟩ |
        exact ⟨⟨4, by decide, by rw [hlt]; simp [H8.l, ltL, h1]⟩, by simp, Ent.ren [0, 1] (by decide) rfl hC0 hC1 rfl ⟨rfl, rfl, rfl, rfl, trivial⟩ ⟨⟨_, rfl, rfl, rfl⟩, ⟨_, rfl, rfl, rfl⟩, trivial⟩⟩ |
        exact ⟨⟨5, by decide, by rw [hlt]; simp [H8.l, ltL, h1]⟩, by simp, Ent.ren [0, 1] (by decide) rfl hC0 hC1 rfl ⟨rfl, rfl, rfl, rfl, trivial⟩ ⟨⟨_, rfl, rfl, rfl⟩, ⟨_, rfl, rfl, rfl⟩, trivial⟩⟩ |
        exact ⟨⟨6, by decide, by rw [hlt]; simp [H8.l, ltL, h1]⟩, by simp, Ent.ren [0, 1] (by decide) rfl hC0 hC1 rfl ⟨rfl, rfl, rfl, rfl, trivial⟩ ⟨⟨_, rfl, rfl, rfl⟩, ⟨_, rfl, rfl, rfl⟩, trivial⟩⟩ |
        exact ⟨⟨7, by decide, by rw [hlt]; simp [H8.l, ltL, h1]⟩, by simp, Ent.ren [0, 1] (by decide) rfl hC0 hC1 rfl ⟨rfl, rfl, rfl, rfl, trivial⟩ ⟨⟨_, rfl, rfl, rfl⟩, ⟨_, rfl, rfl, rfl⟩, trivial⟩⟩ |
        exact ⟨⟨8, by decide, by rw [hlt]; simp [H8.l, ltL, h1]⟩, by simp, Ent.ren [0, 1] (by decide) rfl hC0 hC1 rfl ⟨rfl, rfl, rfl, rfl, trivial⟩ ⟨⟨_, rfl, rfl, rfl⟩, ⟨_, rfl, rfl, rfl⟩, trivial⟩⟩
end Go.Proofs.YtnpkdoggfnlapaaGreatDoor
namespace Go.Proofs.YtnpkdoggfnlapaaGreatDoor
set_option maxRecDepth 100000
open Go.Sx
theorem fitU (x : UInt8) : (Kd.int .u8).fits (u8 x) := ⟨_, rfl, u8_wf x⟩
def H8.v (h : H8) : Value := .agg h.cells.toArray
theorem H8.inj (a b : H8) (h : a.v = b.v) : a = b := by
  have h : a.cells = b.cells := by
    have := congrArg (fun v => v.cells.toList) h
    simpa [H8.v, Value.cells] using this
  obtain ⟨_, _, _, _, _, _, _, _⟩ := a
  obtain ⟨_, _, _, _, _, _, _, _⟩ := b
  simp only [H8.cells, List.cons.injEq] at h
  obtain ⟨h0, h1, h2, h3, h4, h5, h6, h7, _⟩ := h
  rw [u8_inj h0, u8_inj h1, u8_inj h2, u8_inj h3, u8_inj h4, u8_inj h5, u8_inj h6, u8_inj h7]
theorem bool_inj {a b : Bool} (h : Value.bool a = Value.bool b) : a = b := by cases h; rfl
theorem Coin.inj (a b : Coin) (h : a.v = b.v) : a = b := by
  have h : a.cells = b.cells := by
    have := congrArg (fun v => v.cells.toList) h
    simpa [Coin.v, Value.cells] using this
  obtain ⟨⟨_, _, _, _, _, _, _, _⟩, _, _, _⟩ := a
  obtain ⟨⟨_, _, _, _, _, _, _, _⟩, _, _, _⟩ := b
  simp only [Coin.cells, List.cons.injEq] at h
  obtain ⟨h0, h1, h2, h3, h4, h5, h6, h7, h8, h9, h10, _⟩ := h
  rw [u8_inj h0, u8_inj h1, u8_inj h2, u8_inj h3, u8_inj h4, u8_inj h5, u8_inj h6, u8_inj h7, i64_inj h8, i64_inj h9, bool_inj h10]
def hashKinds : List Kd := [.int .u8, .int .u8, .int .u8, .int .u8, .int .u8, .int .u8, .int .u8, .int .u8]
theorem hash_fits (h : H8) : Fits hashKinds h.cells :=
  ⟨_, _, rfl, fitU _, _, _, rfl, fitU _, _, _, rfl, fitU _, _, _, rfl, fitU _, _, _, rfl, fitU _, _, _, rfl, fitU _, _, _, rfl, fitU _, _, _, rfl, fitU _, rfl⟩
theorem hash_row : (29 : TypeId) < Tryz.prog.types.size := of_decide_eq_true (by kernel_rfl)
theorem hash_deep : Tryz.prog.keyTypeAt 3 29 = true := by kernel_rfl
theorem hash_deep8 : Tryz.prog.keyTypeAt 8 29 = true := by kernel_rfl
theorem hash_keyT : Tryz.prog.keyType 29 = true := by kernel_rfl
theorem hash_law : WideMaps.KeyLaw Tryz.prog 29 := deep_law_laid laid (m := 3) (by omega) hash_row hash_deep (by rw [Tryz.underlying29])
theorem types_many : 8 ≤ Tryz.prog.types.size + 1 := of_decide_eq_true (by kernel_rfl)
theorem hash_cells : hashKinds.length = Tryz.prog.cellsOf 29 := by kernel_rfl
theorem hash_key (h : H8) : ∃ l, keyOf Tryz.prog 29 h.v = some l := keyOf_fits Tryz.T_ok (f := 8) (ks := hashKinds) rfl hash_deep8 hash_keyT types_many (by rw [Tryz.underlying29]) (hash_fits h) hash_cells
theorem hash_noguard : Tryz.prog.eqGuardType Tryz.prog.depth 29 = false := by kernel_rfl
theorem hashE : EqK Tryz.prog 29 H8.v := EqK.of (m := 3) hash_law (by omega) hash_deep (by rw [Tryz.underlying29]) hash_key H8.inj hash_noguard (fun a => ⟨_, rfl⟩)
theorem pt_noguard : Tryz.prog.eqGuardType Tryz.prog.depth 65 = false := by kernel_rfl
theorem ptE : EqK Tryz.prog 65 Pt.v := EqK.of (m := 3) pt_law (by omega) pt_deep (by rw [Tryz.underlying65]) pt_key Pt.inj pt_noguard (fun a => ⟨_, rfl⟩)
def ltPt (a b : Pt) : Bool := ltL a.tx.l b.tx.l || (decide (a.tx = b.tx) && decide (a.no.toInt < b.no.toInt))
set_option maxRecDepth 100000 in
theorem lessPoint_spec (a b : Pt) (M : Mem) (d : Nat) : CallSpec Tryz.prog 193 [a.cv, b.cv] M d { v := XV.bool (ltPt a b) } [] := by
  refine spec_pureT Tryz.T_ok Tryz.func193 rfl [a.cv, b.cv] _ rfl rfl (fun C hC => ?_) M d
  refine Tri.of Tryz.mixed Tryz.T_ok ?_
  (refine wBegin ?_; ((conv => arg 5; whnf); repeat (refine xS ?_; conv => arg 5; whnf)))
  (apply wP; exact (call_op rfl (entersB_of Tryz.func216 (by kernel_rfl)) rfl (refLess_spec a.tx b.tx _ _)); ((conv => arg 5; whnf); repeat (refine xS ?_; conv => arg 5; whnf)))
  refine wC (fun h1 => ?_) (fun h1 => ?_)
  · (refine wGo ?_; ((conv => arg 5; whnf); repeat (refine xS ?_; conv => arg 5; whnf)))
    refine Ends.plain (.inr rfl) rfl ?_
    simp [ltPt, h1]
  (refine wGo ?_; ((conv => arg 5; whnf); repeat (refine xS ?_; conv => arg 5; whnf)))
  (refine wP _ _ (eq_op hashE rfl a.tx b.tx rfl rfl) ?_; ((conv => arg 5; whnf); repeat (refine xS ?_; conv => arg 5; whnf)))
  refine wC (fun h2 => ?_) (fun h2 => ?_)
  · (refine wGo ?_; ((conv => arg 5; whnf); repeat (refine xS ?_; conv => arg 5; whnf)))
    refine Ends.plain (.inr rfl) rfl ?_
    simp only [decide_eq_true_eq] at h2
    unfold ltPt
    rw [h1]
    simp [h2]
  · (refine wGo ?_; ((conv => arg 5; whnf); repeat (refine xS ?_; conv => arg 5; whnf)))
    refine Ends.plain (.inr rfl) rfl ?_
    simp only [decide_eq_false_iff_not] at h2
    unfold ltPt
    rw [h1]
    simp [h2]
end Go.Proofs.YtnpkdoggfnlapaaGreatDoor
namespace Go.Proofs.YtnpkdoggfnlapaaGreatDoor
set_option maxRecDepth 100000
open Go.Sx
def rowsL (bss : List (List UInt8)) : List (Nat × (Nat → List Value)) := bss.map fun b => (b.length, rowB b)
theorem lend_parts {M : Mem} {rd : List Nat} {c e : Nat} {cs : List SV} (bss : List (List UInt8)) (hm : M.get c = some (.cells e cs)) (hrd : nmem c rd = true) (hn : cs.length = bss.length) (ha : AllRows M rd 1 cs (rowsL bss)) : Lends M rd (.one (.slc c 1 0 bss.length)) (partsA bss) := by
  refine lend_rows (rowsL bss) hm hrd hn ha (fun i x hx => ?_)
  rw [rowsL, List.getElem?_map] at hx
  cases hb : bss[i]? with
  | none => rw [hb] at hx; cases hx
  | some b =>
    rw [hb] at hx
    simp only [Option.map_some, Option.some.injEq] at hx
    subst hx
    simp [List.getD_eq_getElem?_getD, hb]
theorem lend_vecN {M : Mem} {rd : List Nat} {c e sz n lo k k' : Nat} {f g : Nat → List Value} (hkk : k' = k) (hm : M.get c = some (.vec e sz n f)) (hrd : nmem c rd = true) (hk : lo + k ≤ n) (hg : ∀ i, i < k → g i = f (lo + i)) : Lends M rd (.one (.slc c sz lo k')) (.row sz k g) := by
  subst hkk; exact lend_vec hm hrd hk hg
theorem H8.l_len (h : H8) : h.l.length = 8 := rfl
theorem short1 (p : UInt8) (a : List UInt8) (h : a.length ≤ 900000000) : Short (encAll p [a]) := by
  show (encN p [a] 1).length ≤ _
  rw [encN_length]
  show [p].length + 4 + a.length ≤ _
  simp; omega
theorem short2 (p : UInt8) (a b : List UInt8) (h : a.length + b.length ≤ 900000000) : Short (encAll p [a, b]) := by
  show (encN p [a, b] 2).length ≤ _
  rw [encN_length, encN_length]
  show [p].length + 4 + a.length + 4 + b.length ≤ _
  simp; omega
def leafH (h : H8) : H8 := dig 108 [h.l]
def joinH (a b : H8) : H8 := dig 109 [a.l, b.l]
def markH (h : H8) : H8 := dig 112 [h.l]
abbrev H8.x (h : H8) : CV := .agg (h.cells.map .raw)
def hashX (h : H8) : XV := .cv h.x
theorem ptwo_can (p : UInt8) (a b : H8) : Reads Tryz.prog 180 [.plain (.one (.raw (u8 p))), .plain a.x, .plain b.x] [stepsP] (hashX (dig p [a.l, b.l])) := by
  refine Reads.of Tryz.T_ok Tryz.func180 rfl _ _ _ rfl rfl (fun C hC => ?_)
  (replace hC : C.n0 = 4 := hC; change Tri _ _ _ ⟨_, _, 4⟩ _)
  refine Tri.of Tryz.mixed Tryz.T_ok ?_
  (refine wBegin ?_; ((conv => arg 5; whnf); repeat (refine xS ?_; conv => arg 5; whnf)))
  (refine wP _ _ (cellsNew_op Tryz.T_ok rfl rfl rfl) ?_; ((conv => arg 5; whnf); repeat (refine xS ?_; conv => arg 5; whnf)))
  (apply wP; exact (call_op rfl (entersB_of Tryz.func146 (by kernel_rfl)) rfl ((of_can p [a.l, b.l] (short2 _ _ _ (by simp [H8.l_len]))).at [10, 4, 5, 3] ⟨lend_plain rfl, lend_parts [a.l, b.l] rfl rfl rfl ⟨lend_sla rfl rfl (fun _ _ => rfl) rfl, lend_sla rfl rfl (fun _ _ => rfl) rfl, trivial⟩, trivial⟩ ⟨lend_ext (c := 3) rfl rfl, trivial⟩)); ((conv => arg 5; whnf); repeat (refine xS ?_; conv => arg 5; whnf)))
  exact wD (Ends.plain (.inr rfl) rfl rfl)
theorem rtwo_can (p : UInt8) (a b : H8) : Reads Tryz.prog 182 [.plain (.one (.raw (u8 p))), .plain a.x, .plain b.x] [] (hashX (dig p [a.l, b.l])) := by
  refine Reads.of Tryz.T_ok Tryz.func182 rfl _ _ _ rfl rfl (fun C hC => ?_)
  (replace hC : C.n0 = 3 := hC; change Tri _ _ _ ⟨_, _, 3⟩ _)
  refine Tri.of Tryz.mixed Tryz.T_ok ?_
  (refine wBegin ?_; ((conv => arg 5; whnf); repeat (refine xS ?_; conv => arg 5; whnf)))
  (refine wP _ _ (cellsNew_op Tryz.T_ok rfl rfl rfl) ?_; ((conv => arg 5; whnf); repeat (refine xS ?_; conv => arg 5; whnf)))
  (apply wP; exact (call_op rfl (entersB_of Tryz.func45 (by kernel_rfl)) rfl ((digest_can p [a.l, b.l] (short2 _ _ _ (by simp [H8.l_len]))).at [9, 3, 4] ⟨lend_plain rfl, lend_parts [a.l, b.l] rfl rfl rfl ⟨lend_sla rfl rfl (fun _ _ => rfl) rfl, lend_sla rfl rfl (fun _ _ => rfl) rfl, trivial⟩, trivial⟩ trivial)); ((conv => arg 5; whnf); repeat (refine xS ?_; conv => arg 5; whnf)))
  exact wD (Ends.plain (.inr rfl) rfl rfl)
theorem rmark_can (a : H8) : Reads Tryz.prog 200 [.plain a.x] [] (hashX (markH a)) := by
  refine Reads.of Tryz.T_ok Tryz.func200 rfl _ _ _ rfl rfl (fun C hC => ?_)
  (replace hC : C.n0 = 1 := hC; change Tri _ _ _ ⟨_, _, 1⟩ _)
  refine Tri.of Tryz.mixed Tryz.T_ok ?_
  (refine wBegin ?_; ((conv => arg 5; whnf); repeat (refine xS ?_; conv => arg 5; whnf)))
  (refine wP _ _ (cellsNew_op Tryz.T_ok rfl rfl rfl) ?_; ((conv => arg 5; whnf); repeat (refine xS ?_; conv => arg 5; whnf)))
  (apply wP; exact (call_op rfl (entersB_of Tryz.func45 (by kernel_rfl)) rfl ((digest_can 112 [a.l] (short1 _ _ (by simp [H8.l_len]))).at [4, 1] ⟨lend_plain rfl, lend_parts [a.l] rfl rfl rfl ⟨lend_sla rfl rfl (fun _ _ => rfl) rfl, trivial⟩, trivial⟩ trivial)); ((conv => arg 5; whnf); repeat (refine xS ?_; conv => arg 5; whnf)))
  exact wD (Ends.plain (.inr rfl) rfl rfl)
theorem row4 {x0 x1 x2 x3 : UInt8} {v0 v1 v2 v3 : Value} (h0 : v0 = u8 x0) (h1 : v1 = u8 x1) (h2 : v2 = u8 x2) (h3 : v3 = u8 x3) : ∀ i, i < [x0, x1, x2, x3].length → rowB [x0, x1, x2, x3] i = cutF [v0, v1, v2, v3] 1 (0 + i) := by
  subst h0 h1 h2 h3
  intro i hi
  match i, hi with
  | 0, _ => rfl
  | 1, _ => rfl
  | 2, _ => rfl
  | 3, _ => rfl
def secretH (seed : H8) (idx i b : Int) : H8 := dig 115 [seed.l, [byteI (IntKind.u8.wrap idx), byteI (IntKind.u8.wrap i), byteI (IntKind.u8.wrap b), 0]]
theorem secret_can (seed : H8) (idx i b : Int) : Reads Tryz.prog 198 [.plain seed.x, .plain (.one (.raw (.int .i64 idx))), .plain (.one (.raw (.int .i64 i))), .plain (.one (.raw (.int .i64 b)))] [] (hashX (secretH seed idx i b)) := by
  refine Reads.of Tryz.T_ok Tryz.func198 rfl _ _ _ rfl rfl (fun C hC => ?_)
  (replace hC : C.n0 = 4 := hC; change Tri _ _ _ ⟨_, _, 4⟩ _)
  refine Tri.of Tryz.mixed Tryz.T_ok ?_
  (refine wBegin ?_; ((conv => arg 5; whnf); repeat (refine xS ?_; conv => arg 5; whnf)))
  (refine wP _ _ (cellsNew_op Tryz.T_ok rfl rfl rfl) ?_; ((conv => arg 5; whnf); repeat (refine xS ?_; conv => arg 5; whnf)))
  (apply wP; exact (call_op rfl (entersB_of Tryz.func45 (by kernel_rfl)) rfl ((digest_can 115 [seed.l, [byteI (IntKind.u8.wrap idx), byteI (IntKind.u8.wrap i), byteI (IntKind.u8.wrap b), 0]] (short2 _ _ _ (by simp [H8.l_len]))).at [14, 4, 13] ⟨lend_plain rfl, lend_parts [seed.l, [byteI (IntKind.u8.wrap idx), byteI (IntKind.u8.wrap i), byteI (IntKind.u8.wrap b), 0]] rfl rfl rfl ⟨lend_sla rfl rfl (fun _ _ => rfl) rfl, lend_vec (lo := 0) rfl rfl (Nat.le_refl _) (row4 (u8_byteI _).symm (u8_byteI _).symm (u8_byteI _).symm rfl), trivial⟩, trivial⟩ trivial)); ((conv => arg 5; whnf); repeat (refine xS ?_; conv => arg 5; whnf)))
  exact wD (Ends.plain (.inr rfl) rfl rfl)
end Go.Proofs.YtnpkdoggfnlapaaGreatDoor
namespace Go.Proofs.YtnpkdoggfnlapaaGreatDoor
set_option maxRecDepth 100000
open Go.Sx
def bitN (m : H8) (i : Nat) : Nat := ((m.l.getD (i / 8) 0).toNat / 2 ^ (i % 8)) % 2
theorem bitN_cases (m : H8) (i : Nat) : bitN m i = 0 ∨ bitN m i = 1 := by unfold bitN; omega
theorem ofInt_nat (n y : Nat) : BitVec.ofInt n (y : Int) = BitVec.ofNat n y := by
  apply BitVec.eq_of_toNat_eq
  rw [BitVec.toNat_ofInt, BitVec.toNat_ofNat]
  omega
theorem and1_i64 (y : Nat) : bitI .and .i64 (y : Int) 1 = ((y % 2 : Nat) : Int) := by
  show IntKind.i64.wrap (((BitVec.ofInt 64 (y : Int) &&& BitVec.ofInt 64 ((1 : Nat) : Int)).toNat : Int)) = _
  rw [ofInt_nat, ofInt_nat, BitVec.toNat_and, BitVec.toNat_ofNat, BitVec.toNat_ofNat, show 1 % 2 ^ 64 = 1 from rfl, Nat.and_one_is_mod, IntKind.wrap_i64]
  omega
theorem shr_nat (k : IntKind) (y s : Nat) (hs : s ≤ k.bits) : shrI k (y : Int) (s : Int) = ((y / 2 ^ s : Nat) : Int) := by
  have e : min ((s : Int).toNat) k.bits = s := by omega
  have h2 : ((2 : Int) ^ s) = ((2 ^ s : Nat) : Int) := by rw [Int.natCast_pow]; rfl
  rw [shrI, e, h2, Int.fdiv_eq_ediv_of_nonneg _ (Int.natCast_nonneg _), Int.natCast_ediv]
theorem rbit_can (m : H8) (i : Nat) (hi : i < 64) : Reads Tryz.prog 199 [.plain m.x, .plain (.one (.raw (.int .i64 i)))] [] (XV.int .i64 (bitN m i)) := by
  refine Reads.of Tryz.T_ok Tryz.func199 rfl _ _ _ rfl rfl (fun C hC => ?_)
  (replace hC : C.n0 = 2 := hC; change Tri _ _ _ ⟨_, _, 2⟩ _)
  (refine Tri.cut 1 Tryz.mixed Tryz.T_ok ?_; ((conv => arg 5; whnf); repeat (refine xS ?_; conv => arg 5; whnf)))
  refine wD <| cutG <| Tri.ent (Ent.arrT (c := 2) 1 8 (rowB m.l) rfl rfl rfl (fun _ _ => rfl) (by decide) rfl (by rw [hC]; decide)) <| Tri.of Tryz.mixed Tryz.T_ok ?_
  have q1 : IntKind.i64.wrap (Int.tdiv (i : Int) 8) = ((i / 8 : Nat) : Int) := by
    have : Int.tdiv (i : Int) 8 = ((i / 8 : Nat) : Int) := rfl
    rw [this]; exact (by (try simp only [ww] at *); omega)
  have q2 : Int.tmod (i : Int) 8 = ((i % 8 : Nat) : Int) := rfl
  (refine wBegin ?_; ((conv => arg 5; whnf); repeat (refine xS ?_; conv => arg 5; whnf)))
  simp only [q1]
  (repeat (refine wN ?_ ?_; exact (by (try simp only [ww] at *); omega); refine wGo ?_; ((conv => arg 5; whnf); repeat (refine xS ?_; conv => arg 5; whnf))))
  simp only [q2]
  (repeat (refine wN ?_ ?_; exact (by (try simp only [ww] at *); omega); refine wGo ?_; ((conv => arg 5; whnf); repeat (refine xS ?_; conv => arg 5; whnf))))
  refine wD (Ends.plain (.inr rfl) rfl ?_)
  have e : bitI .and .i64 (shrI .i64 (IntKind.i64.wrap ((m.l.getD (((i / 8 : Nat) : Int).toNat) 0).toNat : Int)) (IntKind.u64.wrap ((i % 8 : Nat) : Int))) 1 = ((bitN m i : Nat) : Int) := by
    have h8 : i % 8 ≤ IntKind.i64.bits := Nat.le_trans (Nat.le_of_lt (Nat.mod_lt i (by decide : 8 > 0))) (by decide)
    have hb := (m.l.getD (i / 8) 0).toNat_lt
    have e1 : IntKind.i64.wrap ((m.l.getD (i / 8) 0).toNat : Int) = ((m.l.getD (i / 8) 0).toNat : Int) := (by (try simp only [ww] at *); omega)
    have e2 : IntKind.u64.wrap ((i % 8 : Nat) : Int) = ((i % 8 : Nat) : Int) := (by (try simp only [ww] at *); omega)
    rw [Int.toNat_natCast, e1, e2, shr_nat _ _ _ h8, and1_i64]
    rfl
  exact congrArg (fun n : Int => XV.int .i64 n) e
end Go.Proofs.YtnpkdoggfnlapaaGreatDoor
namespace Go.Proofs.YtnpkdoggfnlapaaGreatDoor
set_option maxRecDepth 100000
open Go.Sx
def zeroH : H8 := ⟨0, 0, 0, 0, 0, 0, 0, 0⟩
def hashF (h : Nat → H8) : Nat → List Value := fun i => (h i).cells
def uptoH (h : Nat → H8) (n : Nat) : Nat → H8 := fun k => if k < n then h k else zeroH
theorem updH (w : Nat → H8) (i k : Nat) (h : H8) : updF (hashF w) i 0 h.cells k = hashF (fun k => if k = i then h else w k) k := by
  by_cases hk : k = i
  · subst hk; rw [updF_whole (by rfl)]; simp [hashF]
  · rw [updF_ne hk]; simp [hashF, hk]
theorem uptoH_step (h : Nat → H8) (i k : Nat) : (if k = i then h i else uptoH h i k) = uptoH h (i + 1) k := by
  unfold uptoH
  by_cases hk : k = i
  · subst hk; rw [if_pos rfl, if_pos (Nat.lt_succ_self k)]
  · rw [if_neg hk]
    by_cases hk3 : k < i
    · rw [if_pos hk3, if_pos (by omega)]
    · rw [if_neg hk3, if_neg (by omega)]
def rowX (h : Nat → H8) (n : Nat) : CV := .agg ((tabF (hashF h) 0 n).map .raw)
def openS (seed : H8) (idx : Int) (m : H8) (i : Nat) : H8 := secretH seed idx (i : Int) ((bitN m i : Nat) : Int)
def shutS (seed : H8) (idx : Int) (m : H8) (i : Nat) : H8 := markH (secretH seed idx (i : Int) ((1 - bitN m i : Nat) : Int))
def signSt (seed : H8) (idx : Int) (m : H8) (i : Nat) : St :=
  ⟨[none, some (XV.int .i64 idx), none, some (XV.sv (.ptr 3 0 0 0)), none, some (XV.sv (.ptr 4 0 0 0)), some (XV.sv (.ptr 5 0 0 0)), some (XV.sv (.ptr 6 0 0 0)), some (XV.sv (.ptr 7 0 0 0)), some (XV.sv (.ptr 8 0 0 0)), some (XV.int .i64 i)] ++ List.replicate 26 none,
   [(3, .cells 29 (seed.cells.map .raw)), (4, .cells 29 (m.cells.map .raw)), (5, .cells 44 ((List.replicate 128 (u8 0)).map .raw)), (6, .cells 44 ((List.replicate 128 (u8 0)).map .raw)), (7, .vec 44 8 16 (hashF (uptoH (openS seed idx m) i))), (8, .vec 44 8 16 (hashF (uptoH (shutS seed idx m) i)))], 9⟩
set_option maxHeartbeats 4000000 in
theorem sign_can (seed : H8) (idx : Int) (m : H8) : Reads Tryz.prog 165 [.plain seed.x, .plain (.one (.raw (.int .i64 idx))), .plain m.x] [] (.tup [rowX (openS seed idx m) 16, rowX (shutS seed idx m) 16]) := by
  refine Reads.of Tryz.T_ok Tryz.func165 rfl _ _ _ rfl (by simp only [XV.ok, List.all_cons, List.all_nil, Bool.and_true, Bool.and_eq_true]; exact ⟨raws_ok _ _, raws_ok _ _⟩) (fun C hC => ?_)
  (replace hC : C.n0 = 3 := hC; change Tri _ _ _ ⟨_, _, 3⟩ _)
  (refine Tri.cut 2 Tryz.mixed Tryz.T_ok ?_; ((conv => arg 5; whnf); repeat (refine xS ?_; conv => arg 5; whnf)))
  refine wD <| cutG <| Tri.ent (Ent.arr0 (c := 7) 8 16 (u8 0) (f := hashF (uptoH (openS seed idx m) 0)) rfl rfl rfl (by decide) rfl (by rw [hC]; decide) (fun _ _ => rfl)) <| Tri.ent (Ent.arr0 (c := 8) 8 16 (u8 0) (f := hashF (uptoH (shutS seed idx m) 0)) rfl rfl rfl (by decide) rfl (by rw [hC]; decide) (fun _ _ => rfl)) <| Tri.seq ?_
  (refine Tri.cut 1 Tryz.mixed Tryz.T_ok ?_; ((conv => arg 5; whnf); repeat (refine xS ?_; conv => arg 5; whnf)))
  refine wD <| cutG <| Tri.block ?_
  refine Tri.loop (α := { i : Nat // i ≤ 16 }) (fun i => signSt seed idx m i.1) (fun i => 16 - i.1) ⟨0, Nat.zero_le _⟩ ?_ ?_
  · exact Ent.ren [0, 1, 2, 3, 4, 5, 6, 7, 8] (by decide) rfl (fun i hi => by replace hi := Nat.lt_of_lt_of_eq hi hC; revert i; decide) (Nat.le_trans (Nat.le_of_eq hC) (by decide)) rfl (by repeat' (first | exact trivial | exact rfl | refine ⟨?_, ?_⟩ | fail)) (by repeat' (first | exact trivial | exact ⟨_, rfl, rfl, rfl, Nat.le_refl _, fun _ _ => rfl⟩ | exact ⟨_, rfl, rfl, rfl, fun _ _ => rfl⟩ | exact ⟨_, rfl, rfl, rfl⟩ | exact ⟨_, rfl, rfl⟩ | refine ⟨?_, ?_⟩ | fail))
  rintro ⟨i, hi⟩
  dsimp only
  (refine Tri.cut 1 Tryz.mixed Tryz.T_ok ?_; ((conv => arg 5; whnf); repeat (refine xS ?_; conv => arg 5; whnf)))
  refine wC (fun h1 => ?_) (fun h1 => ?_)
  · (refine wGo ?_; ((conv => arg 5; whnf); repeat (refine xS ?_; conv => arg 5; whnf)))
    have h1' : i < 16 := (by (try simp only [ww] at *); omega)
    have hb := bitN_cases m i
    have eb : IntKind.i64.wrap (1 - ((bitN m i : Nat) : Int)) = ((1 - bitN m i : Nat) : Int) := (by (try simp only [ww] at *); omega)
    refine wD <| cutG <| Tri.seq <| Tri.block ?_
    (refine Tri.cut 1 Tryz.mixed Tryz.T_ok ?_; ((conv => arg 5; whnf); repeat (refine xS ?_; conv => arg 5; whnf)))
    (apply wP; exact (call_op rfl (entersB_of Tryz.func199 (by kernel_rfl)) rfl ((rbit_can m i (by omega)).at [] ⟨lend_plain rfl, lend_plain rfl, trivial⟩ trivial)); ((conv => arg 5; whnf); repeat (refine xS ?_; conv => arg 5; whnf)))
    (apply wP; exact (call_op rfl (entersB_of Tryz.func198 (by kernel_rfl)) rfl ((secret_can seed idx i ((bitN m i : Nat) : Int)).at [] ⟨lend_plain rfl, lend_plain rfl, lend_plain rfl, lend_plain rfl, trivial⟩ trivial)); ((conv => arg 5; whnf); repeat (refine xS ?_; conv => arg 5; whnf)))
    (repeat (refine wN ?_ ?_; exact (by (try simp only [ww] at *); omega); refine wGo ?_; ((conv => arg 5; whnf); repeat (refine xS ?_; conv => arg 5; whnf))))
    refine wD <| cutG <| Tri.of Tryz.mixed Tryz.T_ok ?_
    (refine wBegin ?_; ((conv => arg 5; whnf); repeat (refine xS ?_; conv => arg 5; whnf)))
    (apply wP; exact (call_op rfl (entersB_of Tryz.func199 (by kernel_rfl)) rfl ((rbit_can m i (by omega)).at [] ⟨lend_plain rfl, lend_plain rfl, trivial⟩ trivial)); ((conv => arg 5; whnf); repeat (refine xS ?_; conv => arg 5; whnf)))
    simp only [eb]
    (apply wP; exact (call_op rfl (entersB_of Tryz.func198 (by kernel_rfl)) rfl ((secret_can seed idx i ((1 - bitN m i : Nat) : Int)).at [] ⟨lend_plain rfl, lend_plain rfl, lend_plain rfl, lend_plain rfl, trivial⟩ trivial)); ((conv => arg 5; whnf); repeat (refine xS ?_; conv => arg 5; whnf)))
    (apply wP; exact (call_op rfl (entersB_of Tryz.func200 (by kernel_rfl)) rfl ((rmark_can (secretH seed idx i ((1 - bitN m i : Nat) : Int))).at [] ⟨lend_plain rfl, trivial⟩ trivial)); ((conv => arg 5; whnf); repeat (refine xS ?_; conv => arg 5; whnf)))
    (repeat (refine wN ?_ ?_; exact (by (try simp only [ww] at *); omega); refine wGo ?_; ((conv => arg 5; whnf); repeat (refine xS ?_; conv => arg 5; whnf))))
    refine wD <| blockN <| cutG <| Tri.of Tryz.mixed Tryz.T_ok ?_
    (refine wBegin ?_; ((conv => arg 5; whnf); repeat (refine xS ?_; conv => arg 5; whnf)))
    have hw : IntKind.i64.wrap ((i : Int) + 1) = ((i + 1 : Nat) : Int) := (by (try simp only [ww] at *); omega)
    refine wD <| loopN ⟨⟨i + 1, h1'⟩, by dsimp only; omega, ?_⟩
    rw [hw]
    ((try dsimp only); refine Ent.renC [0, 1, 2, 3, 4, 5, 6, 7, 8] hC ?_ ?_ <;> repeat' (first | exact trivial | exact rfl | exact ⟨_, rfl, rfl, rfl, Nat.le_refl _, fun _ _ => rfl⟩ | exact ⟨_, rfl, rfl, rfl, fun _ _ => rfl⟩ | exact ⟨_, rfl, rfl, rfl⟩ | exact ⟨_, rfl, rfl⟩ | refine ⟨_, rfl, rfl, rfl, by omega, fun k hk => ?_⟩ | refine ⟨?_, ?_⟩ | fail))
    · refine (updH (uptoH (openS seed idx m) i) i k (openS seed idx m i)).trans ?_
      simp only [hashF, uptoH_step]
    · refine (updH (uptoH (shutS seed idx m) i) i k (shutS seed idx m i)).trans ?_
      simp only [hashF, uptoH_step]
  · (refine wGo ?_; ((conv => arg 5; whnf); repeat (refine xS ?_; conv => arg 5; whnf)))
    have h1' : i = 16 := (by (try simp only [ww] at *); omega)
    subst h1'
    have hf : ∀ (g : Nat → H8) k, k < 16 → hashF (uptoH g 16) k = hashF g k := fun g k hk => by simp [hashF, uptoH, hk]
    refine wD <| cutE <| loopX <| blockX <| cutG <| Tri.ent (Ent.chg0 (c := 7) (g := hashF (openS seed idx m)) rfl (hf _)) <| Tri.ent (Ent.chg0 (c := 8) (g := hashF (shutS seed idx m)) rfl (hf _)) <| Tri.of Tryz.mixed Tryz.T_ok ?_
    (refine wBegin ?_; ((conv => arg 5; whnf); repeat (refine xS ?_; conv => arg 5; whnf)))
    (repeat (refine wN ?_ ?_; exact (by (try simp only [ww] at *); omega); refine wGo ?_; ((conv => arg 5; whnf); repeat (refine xS ?_; conv => arg 5; whnf))))
    exact wD (Ends.plain (.inr rfl) rfl rfl)
def allB (mk : Nat → Nat → H8) : Nat → List UInt8
  | 0 => []
  | i + 1 => allB mk i ++ (mk i 0).l ++ (mk i 1).l
theorem allB_length (mk : Nat → Nat → H8) : ∀ i, (allB mk i).length = 16 * i
  | 0 => rfl
  | i + 1 => by simp only [allB, List.length_append, allB_length mk i, H8.l_len]; omega
def pubH (mk : Nat → Nat → H8) : H8 := dig 107 [allB mk 16]
def markOf (m : H8) (o s : Nat → H8) (i b : Nat) : H8 := if b = bitN m i then markH (o i) else s i
def rpubSt (m : H8) (o s : Nat → H8) (i : Nat) : St :=
  ⟨[none, none, none, some (XV.sv (.ptr 3 0 0 0)), some (XV.sv (.ptr 4 0 0 0)), some (XV.sv (.ptr 5 0 0 0)), some (XV.sv (.ptr 6 0 0 0)), some (XV.sv (.slc 7 1 0 (16 * i))), some (XV.int .i64 i)] ++ List.replicate 27 none,
   [(3, .cells 29 (m.cells.map .raw)), (4, .vec 44 8 16 (hashF o)), (5, .vec 44 8 16 (hashF s)), (6, .cells 29 ((List.replicate 8 (u8 0)).map .raw)), (7, .vec 5 1 (16 * i) (rowB (allB (markOf m o s) i)))], 8⟩
set_option maxHeartbeats 4000000 in
theorem rpublic_can (m : H8) (o s : Nat → H8) : Reads Tryz.prog 196 [.plain m.x, .plain (rowX o 16), .plain (rowX s 16)] [] (hashX (pubH (markOf m o s))) := by
  refine Reads.of Tryz.T_ok Tryz.func196 rfl _ _ _ (by simp only [canX, AD.plain, List.all_cons, List.all_nil, Bool.and_true, Bool.and_eq_true]; exact ⟨raws_ok _ _, raws_ok _ _, raws_ok _ _⟩) rfl (fun C hC => ?_)
  (replace hC : C.n0 = 3 := hC; change Tri _ _ _ ⟨_, _, 3⟩ _)
  (refine Tri.cut 2 Tryz.mixed Tryz.T_ok ?_; ((conv => arg 5; whnf); repeat (refine xS ?_; conv => arg 5; whnf)))
  refine wD <| cutG <| Tri.ent (Ent.arrT (c := 4) 8 16 (hashF o) rfl rfl rfl (fun _ _ => rfl) (by decide) rfl (by rw [hC]; decide)) <| Tri.ent (Ent.arrT (c := 5) 8 16 (hashF s) rfl rfl rfl (fun _ _ => rfl) (by decide) rfl (by rw [hC]; decide)) <| Tri.ent (Ent.nils (t := 7) rfl 5 1) <| Tri.seq ?_
  (refine Tri.cut 1 Tryz.mixed Tryz.T_ok ?_; ((conv => arg 5; whnf); repeat (refine xS ?_; conv => arg 5; whnf)))
  refine wD <| cutG <| Tri.block ?_
  refine Tri.loop (α := { i : Nat // i ≤ 16 }) (fun i => rpubSt m o s i.1) (fun i => 16 - i.1) ⟨0, Nat.zero_le _⟩ ?_ ?_
  · ((try dsimp only); refine Ent.renC [0, 1, 2, 3, 4, 5, 6, 8] hC ?_ ?_ <;> repeat' (first | exact trivial | exact rfl | exact ⟨_, rfl, rfl, rfl, Nat.le_refl _, fun _ _ => rfl⟩ | exact ⟨_, rfl, rfl, rfl, fun _ _ => rfl⟩ | exact ⟨_, rfl, rfl, rfl⟩ | exact ⟨_, rfl, rfl⟩ | refine ⟨_, rfl, rfl, rfl, by omega, fun k hk => ?_⟩ | refine ⟨?_, ?_⟩ | fail))
    exact absurd hk (Nat.not_lt_zero _)
  rintro ⟨i, hi⟩
  dsimp only
  (refine Tri.cut 1 Tryz.mixed Tryz.T_ok ?_; ((conv => arg 5; whnf); repeat (refine xS ?_; conv => arg 5; whnf)))
  refine wC (fun h1 => ?_) (fun h1 => ?_)
  · (refine wGo ?_; ((conv => arg 5; whnf); repeat (refine xS ?_; conv => arg 5; whnf)))
    have h1' : i < 16 := (by (try simp only [ww] at *); omega)
    have hw : IntKind.i64.wrap ((i : Int) + 1) = ((i + 1 : Nat) : Int) := (by (try simp only [ww] at *); omega)
    have hj : ∀ (a b : H8) (k : Nat), k < 16 * (i + 1) → joinF (joinF (rowB (allB (markOf m o s) i)) (16 * i) (rowB a.l)) (16 * i + 8) (rowB b.l) k = rowB (allB (markOf m o s) i ++ a.l ++ b.l) k := fun a b k hk =>
      rowB_join (a := allB (markOf m o s) i ++ a.l) (b := b.l) (by rw [List.length_append, allB_length]; rfl) (fun i' hi' => rowB_join (b := a.l) (allB_length _ _).symm (fun _ _ => rfl) (fun _ _ => rfl) (by rw [← List.length_append]; exact hi')) (fun _ _ => rfl) (by rw [List.length_append, allB_length]; simp only [H8.l_len]; omega)
    refine wD <| cutG <| Tri.seq <| Tri.block ?_
    (refine Tri.cut 1 Tryz.mixed Tryz.T_ok ?_; ((conv => arg 5; whnf); repeat (refine xS ?_; conv => arg 5; whnf)))
    (repeat (refine wN ?_ ?_; exact (by (try simp only [ww] at *); omega); refine wGo ?_; ((conv => arg 5; whnf); repeat (refine xS ?_; conv => arg 5; whnf))))
    (apply wP; exact (call_op rfl (entersB_of Tryz.func200 (by kernel_rfl)) rfl ((rmark_can (o i)).at [] ⟨lend_plain rfl, trivial⟩ trivial)); ((conv => arg 5; whnf); repeat (refine xS ?_; conv => arg 5; whnf)))
    (repeat (refine wN ?_ ?_; exact (by (try simp only [ww] at *); omega); refine wGo ?_; ((conv => arg 5; whnf); repeat (refine xS ?_; conv => arg 5; whnf))))
    refine wD <| cutG <| Tri.seq ?_
    (refine Tri.cut 1 Tryz.mixed Tryz.T_ok ?_; ((conv => arg 5; whnf); repeat (refine xS ?_; conv => arg 5; whnf)))
    (apply wP; exact (call_op rfl (entersB_of Tryz.func199 (by kernel_rfl)) rfl ((rbit_can m i (by omega)).at [] ⟨lend_plain rfl, lend_plain rfl, trivial⟩ trivial)); ((conv => arg 5; whnf); repeat (refine xS ?_; conv => arg 5; whnf)))
    refine wD <| cutG <| Tri.cond (b := (((bitN m i : Nat) : Int) == 1)) rfl (fun hb => ?_) (fun hb => ?_)
    · have hb' : bitN m i = 1 := by
        have := eq_of_beq hb
        omega
      refine Tri.of Tryz.mixed Tryz.T_ok ?_
      (refine wBegin ?_; ((conv => arg 5; whnf); repeat (refine xS ?_; conv => arg 5; whnf)))
      refine wD <| cutG <| Tri.of Tryz.mixed Tryz.T_ok ?_
      (refine wBegin ?_; ((conv => arg 5; whnf); repeat (refine xS ?_; conv => arg 5; whnf)))
      (refine wP _ _ (append_op Tryz.T_ok rfl rfl rfl rfl rfl [7, 17] (old_vec rfl rfl (Nat.le_refl _) rfl) (new_sla (g := rowB (s i).l) rfl rfl rfl (fun _ _ => rfl) rfl) rfl (fun _ _ => rfl) (by simp only [maxLen]; omega) (by dsimp only; omega)) ?_; ((conv => arg 5; whnf); repeat (refine xS ?_; conv => arg 5; whnf)))
      (refine wP _ _ (append_op Tryz.T_ok rfl rfl rfl rfl rfl [31, 18] (old_vec rfl rfl (Nat.le_refl _) rfl) (new_sla (g := rowB (markH (o i)).l) rfl rfl rfl (fun _ _ => rfl) rfl) rfl (fun _ _ => rfl) (by simp only [maxLen]; omega) (by dsimp only; omega)) ?_; ((conv => arg 5; whnf); repeat (refine xS ?_; conv => arg 5; whnf)))
      refine wD <| blockN <| cutG <| Tri.of Tryz.mixed Tryz.T_ok ?_
      (refine wBegin ?_; ((conv => arg 5; whnf); repeat (refine xS ?_; conv => arg 5; whnf)))
      refine wD <| loopN ⟨⟨i + 1, h1'⟩, by dsimp only; omega, ?_⟩
      rw [hw]
      have e1 : 16 * i + (((8 : Nat) : Int).toNat - (0 : Int).toNat) + (((8 : Nat) : Int).toNat - (0 : Int).toNat) = 16 * (i + 1) := by omega
      rw [e1]
      ((try dsimp only); refine Ent.renC [0, 1, 2, 3, 4, 5, 6, 33] hC ?_ ?_ <;> repeat' (first | exact trivial | exact rfl | exact ⟨_, rfl, rfl, rfl, Nat.le_refl _, fun _ _ => rfl⟩ | exact ⟨_, rfl, rfl, rfl, fun _ _ => rfl⟩ | exact ⟨_, rfl, rfl, rfl⟩ | exact ⟨_, rfl, rfl⟩ | refine ⟨_, rfl, rfl, rfl, by omega, fun k hk => ?_⟩ | refine ⟨?_, ?_⟩ | fail))
      have hm0 : (markOf m o s i 0) = s i := by unfold markOf; rw [if_neg (by omega)]
      have hm1 : (markOf m o s i 1) = markH (o i) := by unfold markOf; rw [if_pos hb'.symm]
      refine (hj _ _ k hk).trans ?_
      rw [allB, hm0, hm1]
    · have hb' : bitN m i = 0 := by
        have h2 := bitN_cases m i
        have h3 : ¬ ((bitN m i : Nat) : Int) = 1 := by simpa using hb
        omega
      refine Tri.skip (cutG ?_)
      refine Tri.of Tryz.mixed Tryz.T_ok ?_
      (refine wBegin ?_; ((conv => arg 5; whnf); repeat (refine xS ?_; conv => arg 5; whnf)))
      (refine wP _ _ (append_op Tryz.T_ok rfl rfl rfl rfl rfl [7, 17] (old_vec rfl rfl (Nat.le_refl _) rfl) (new_sla (g := rowB (markH (o i)).l) rfl rfl rfl (fun _ _ => rfl) rfl) rfl (fun _ _ => rfl) (by simp only [maxLen]; omega) (by dsimp only; omega)) ?_; ((conv => arg 5; whnf); repeat (refine xS ?_; conv => arg 5; whnf)))
      (refine wP _ _ (append_op Tryz.T_ok rfl rfl rfl rfl rfl [27, 18] (old_vec rfl rfl (Nat.le_refl _) rfl) (new_sla (g := rowB (s i).l) rfl rfl rfl (fun _ _ => rfl) rfl) rfl (fun _ _ => rfl) (by simp only [maxLen]; omega) (by dsimp only; omega)) ?_; ((conv => arg 5; whnf); repeat (refine xS ?_; conv => arg 5; whnf)))
      refine wD <| blockN <| cutG <| Tri.of Tryz.mixed Tryz.T_ok ?_
      (refine wBegin ?_; ((conv => arg 5; whnf); repeat (refine xS ?_; conv => arg 5; whnf)))
      refine wD <| loopN ⟨⟨i + 1, h1'⟩, by dsimp only; omega, ?_⟩
      rw [hw]
      have e1 : 16 * i + (((8 : Nat) : Int).toNat - (0 : Int).toNat) + (((8 : Nat) : Int).toNat - (0 : Int).toNat) = 16 * (i + 1) := by omega
      rw [e1]
      ((try dsimp only); refine Ent.renC [0, 1, 2, 3, 4, 5, 6, 29] hC ?_ ?_ <;> repeat' (first | exact trivial | exact rfl | exact ⟨_, rfl, rfl, rfl, Nat.le_refl _, fun _ _ => rfl⟩ | exact ⟨_, rfl, rfl, rfl, fun _ _ => rfl⟩ | exact ⟨_, rfl, rfl, rfl⟩ | exact ⟨_, rfl, rfl⟩ | refine ⟨_, rfl, rfl, rfl, by omega, fun k hk => ?_⟩ | refine ⟨?_, ?_⟩ | fail))
      have hm0 : (markOf m o s i 0) = markH (o i) := by unfold markOf; rw [if_pos hb'.symm]
      have hm1 : (markOf m o s i 1) = s i := by unfold markOf; rw [if_neg (by omega)]
      refine (hj _ _ k hk).trans ?_
      rw [allB, hm0, hm1]
  · (refine wGo ?_; ((conv => arg 5; whnf); repeat (refine xS ?_; conv => arg 5; whnf)))
    have h1' : i = 16 := (by (try simp only [ww] at *); omega)
    subst h1'
    obtain ⟨L, hL, hlen⟩ : ∃ L, allB (markOf m o s) 16 = L ∧ L.length = 16 * 16 := ⟨_, rfl, allB_length _ _⟩
    refine wD <| cutE <| loopX <| blockX <| cutG <| Tri.of Tryz.mixed Tryz.T_ok ?_
    rw [hL]
    (refine wBegin ?_; ((conv => arg 5; whnf); repeat (refine xS ?_; conv => arg 5; whnf)))
    (refine wP _ _ (cellsNew_op Tryz.T_ok rfl rfl rfl) ?_; ((conv => arg 5; whnf); repeat (refine xS ?_; conv => arg 5; whnf)))
    (apply wP; exact (call_op rfl (entersB_of Tryz.func45 (by kernel_rfl)) rfl ((digest_can 107 [L] (short1 _ _ (by rw [hlen]; decide))).at [11, 7] ⟨lend_plain rfl, lend_parts [L] rfl rfl rfl ⟨lend_vecN (lo := 0) hlen.symm rfl rfl (by show 0 + L.length ≤ 16 * 16; omega) (fun i _ => by rw [Nat.zero_add]), trivial⟩, trivial⟩ trivial)); ((conv => arg 5; whnf); repeat (refine xS ?_; conv => arg 5; whnf)))
    exact wD (Ends.plain (v := hashX (dig 107 [L])) (.inr rfl) rfl (by rw [pubH, hL]))
end Go.Proofs.YtnpkdoggfnlapaaGreatDoor
namespace Go.Proofs.YtnpkdoggfnlapaaGreatDoor
set_option maxRecDepth 100000
open Go.Sx
end Go.Proofs.YtnpkdoggfnlapaaGreatDoor
namespace Go.Proofs.YtnpkdoggfnlapaaGreatDoor
set_option maxRecDepth 100000
open Go.Sx
def halfN (n : Nat) : Nat := 2 ^ Nat.log2 (n - 1)
theorem half_pos (n : Nat) : 0 < halfN n := Nat.two_pow_pos _
theorem half_lt {n : Nat} (h : 2 ≤ n) : halfN n < n := by
  have := Nat.log2_self_le (n := n - 1) (by omega)
  unfold halfN; omega
theorem half_eq {n k : Nat} (h : 2 ≤ n) (h1 : 2 ^ k < n) (h2 : n ≤ 2 * 2 ^ k) : halfN n = 2 ^ k := by
  unfold halfN
  congr 1
  refine (Nat.log2_eq_iff (by omega)).2 ⟨by omega, ?_⟩
  rw [Nat.pow_succ]; omega
def rootF : Nat → (Nat → H8) → Nat → H8
  | 0, _, _ => zeroH
  | f + 1, h, n => if n = 0 then zeroH else if n = 1 then leafH (h 0) else joinH (rootF f h (halfN n)) (rootF f (fun i => h (halfN n + i)) (n - halfN n))
def rootN (h : Nat → H8) (n : Nat) : H8 := rootF n h n
theorem rootF_fuel : ∀ (f g n : Nat) (h : Nat → H8), n ≤ f → n ≤ g → rootF f h n = rootF g h n
  | 0, g, n, h, h1, _ => by
    obtain rfl : n = 0 := by omega
    cases g with
    | zero => rfl
    | succ g => simp [rootF]
  | f + 1, 0, n, h, _, h2 => by
    obtain rfl : n = 0 := by omega
    simp [rootF]
  | f + 1, g + 1, n, h, h1, h2 => by
    simp only [rootF]
    by_cases h0 : n = 0
    · rw [if_pos h0, if_pos h0]
    · by_cases h3 : n = 1
      · rw [if_neg h0, if_neg h0, if_pos h3, if_pos h3]
      · have a1 := half_pos n
        have a2 := half_lt (n := n) (by omega)
        rw [if_neg h0, if_neg h0, if_neg h3, if_neg h3, rootF_fuel f g _ _ (by omega) (by omega), rootF_fuel f g _ _ (by omega) (by omega)]
theorem rootN_step {n : Nat} (hn : 2 ≤ n) (h : Nat → H8) : rootN h n = joinH (rootN h (halfN n)) (rootN (fun i => h (halfN n + i)) (n - halfN n)) := by
  have a1 := half_pos n
  have a2 := half_lt hn
  obtain ⟨m, rfl⟩ : ∃ m, n = m + 1 := ⟨n - 1, by omega⟩
  unfold rootN
  rw [rootF, if_neg (by omega), if_neg (by omega)]
  congr 1
  · exact rootF_fuel _ _ _ _ (by omega) (by omega)
  · exact rootF_fuel _ _ _ _ (by omega) (by omega)
end Go.Proofs.YtnpkdoggfnlapaaGreatDoor
namespace Go.Proofs.YtnpkdoggfnlapaaGreatDoor
set_option maxRecDepth 100000
open Go.Sx
end Go.Proofs.YtnpkdoggfnlapaaGreatDoor
namespace Go.Proofs.YtnpkdoggfnlapaaGreatDoor
set_option maxRecDepth 100000
open Go.Sx
theorem lend_elem {M : Mem} {rd : List Nat} {c off sz sz1 i k cap n : Nat} {f g : Nat → List Value} (hm : M.get c = some (.ro sz n f)) (hrd : nmem c rd = true) (hoff : off = i * sz) (hi : i < n) (hl : ∀ j, j < k → (g j).length = sz1) (hf : f i = tabF g 0 k) : Lends M rd (.one (.sla c off sz1 k cap)) (.row sz1 k g) := by
  refine Lends.row ?_
  intro β ow w v _ h hr
  have hh := hr c ((nmem_iff c rd).1 hrd) _ hm
  simp only [CV.rel, SV.rel] at h
  obtain ⟨a, h1, h2, h3⟩ := h
  simp only [Holds] at hh
  by_cases hn : (β c).nil = true
  · rw [if_pos hn] at hh; omega
  rw [if_neg hn] at hh
  refine ⟨(β c).part off cap, ?_, ?_⟩
  · have hn' : ¬ ((β c).part off cap).nil = true := hn
    simp only [SV.rel]
    rw [if_neg hn']
    refine ⟨a, by rw [h1]; simp [Loc.part], by simpa [Loc.part] using h2, fun hl => ?_⟩
    rw [Loc.part_addr, h3 (by simpa [Loc.part] using hl)]
    simp
  · unfold RoAt
    rw [if_neg (show ¬ ((β c).part off cap).nil = true from hn)]
    refine ⟨⟨hh.2.1, .inl hh.1⟩, fun j hj => ⟨hl j hj, fun q u hu => ?_⟩⟩
    obtain ⟨_, e2⟩ := hh.2.2 i hi
    have hq : q < sz1 := by rw [← hl j hj]; exact (List.getElem?_eq_some_iff.1 hu).1
    rw [Loc.part_addr, hoff]
    refine e2 (j * sz1 + q) u ?_
    rw [hf, tabF_eq, flat_get hl hj hq]
    exact hu
theorem cut_can (n : Nat) (h1 : 2 ≤ n) (h2 : n ≤ 65536) : Reads Tryz.prog 195 [.plain (.one (.raw (.int .i64 n)))] [] (XV.int .i64 (halfN n)) := by
  refine Reads.of Tryz.T_ok Tryz.func195 rfl _ _ _ rfl rfl (fun C hC => ?_)
  (replace hC : C.n0 = 1 := hC; change Tri _ _ _ ⟨_, _, 1⟩ _)
  (refine Tri.cut 2 Tryz.mixed Tryz.T_ok ?_; ((conv => arg 5; whnf); repeat (refine xS ?_; conv => arg 5; whnf)))
  refine wD <| cutG <| Tri.seq <| Tri.block ?_
  refine Tri.loop (α := { x : Nat × Nat // x.2 = 2 ^ x.1 ∧ x.2 < n }) (fun x => ⟨[some (XV.int .i64 n), none, none, some (XV.int .i64 x.1.2)] ++ List.replicate 7 none, [], 1⟩) (fun x => n - x.1.2) ⟨(0, 1), rfl, by dsimp only; omega⟩ ?_ ?_
  · exact Ent.ren [0] (by decide) rfl (fun i hi => by replace hi := Nat.lt_of_lt_of_eq hi hC; revert i; decide) (Nat.le_trans (Nat.le_of_eq hC) (by decide)) rfl (by repeat' (first | exact trivial | exact rfl | refine ⟨?_, ?_⟩ | fail)) (by repeat' (first | exact trivial | exact ⟨_, rfl, rfl, rfl, Nat.le_refl _, fun _ _ => rfl⟩ | exact ⟨_, rfl, rfl, rfl, fun _ _ => rfl⟩ | exact ⟨_, rfl, rfl, rfl⟩ | exact ⟨_, rfl, rfl⟩ | refine ⟨?_, ?_⟩ | fail))
  rintro ⟨⟨j, p⟩, hp, hn⟩
  dsimp only at hp hn ⊢
  have hp0 : 0 < p := by rw [hp]; exact Nat.two_pow_pos _
  have e1 : IntKind.i64.wrap (2 * (p : Int)) = ((2 * p : Nat) : Int) := (by (try simp only [ww] at *); omega)
  (refine Tri.cut 1 Tryz.mixed Tryz.T_ok ?_; ((conv => arg 5; whnf); repeat (refine xS ?_; conv => arg 5; whnf)))
  simp only [e1]
  refine wC (fun h3 => ?_) (fun h3 => ?_)
  · have h3' : 2 * p < n := (by (try simp only [ww] at *); omega)
    (refine wGo ?_; ((conv => arg 5; whnf); repeat (refine xS ?_; conv => arg 5; whnf)))
    refine wD <| cutG <| Tri.block <| Tri.of Tryz.mixed Tryz.T_ok ?_
    (refine wBegin ?_; ((conv => arg 5; whnf); repeat (refine xS ?_; conv => arg 5; whnf)))
    simp only [e1]
    refine wD <| blockN <| loopN ⟨⟨(j + 1, 2 * p), by dsimp only; rw [hp, Nat.pow_succ]; omega, h3'⟩, by dsimp only; omega, ?_⟩
    exact Ent.ren [0] (by decide) rfl (fun i hi => by replace hi := Nat.lt_of_lt_of_eq hi hC; revert i; decide) (Nat.le_trans (Nat.le_of_eq hC) (by decide)) rfl (by repeat' (first | exact trivial | exact rfl | refine ⟨?_, ?_⟩ | fail)) (by repeat' (first | exact trivial | exact ⟨_, rfl, rfl, rfl, Nat.le_refl _, fun _ _ => rfl⟩ | exact ⟨_, rfl, rfl, rfl, fun _ _ => rfl⟩ | exact ⟨_, rfl, rfl, rfl⟩ | exact ⟨_, rfl, rfl⟩ | refine ⟨?_, ?_⟩ | fail))
  · have h3' : n ≤ 2 * p := (by (try simp only [ww] at *); omega)
    (refine wGo ?_; ((conv => arg 5; whnf); repeat (refine xS ?_; conv => arg 5; whnf)))
    refine wD <| cutE <| loopX <| blockX <| cutG <| Tri.of Tryz.mixed Tryz.T_ok ?_
    (refine wBegin ?_; ((conv => arg 5; whnf); repeat (refine xS ?_; conv => arg 5; whnf)))
    refine wD (Ends.plain (.inr rfl) rfl ?_)
    rw [half_eq (k := j) h1 (by omega) (by omega), hp]
set_option maxHeartbeats 1000000 in
theorem root_can : ∀ (n : Nat), 1 ≤ n → n ≤ 65536 → ∀ h : Nat → H8, Reads Tryz.prog 161 [.row 8 n (hashF h)] [] (hashX (rootN h n))
  | n, h1, h2, h => by
    refine Reads.of Tryz.T_ok Tryz.func161 rfl _ _ _ rfl rfl (fun C hC => ?_)
    (replace hC : C.n0 = 1 := hC; change Tri _ _ _ ⟨_, _, 1⟩ _)
    refine Tri.of Tryz.mixed Tryz.T_ok ?_
    (refine wBegin ?_; ((conv => arg 5; whnf); repeat (refine xS ?_; conv => arg 5; whnf)))
    (refine wFd ?_ ?_; (first | refine decide_eq_false ?_ | rw [beq_eq_false_iff_ne] | rw [bne_eq_false_iff_eq]); exact (by (try simp only [ww] at *); omega); refine wGo ?_; ((conv => arg 5; whnf); repeat (refine xS ?_; conv => arg 5; whnf)))
    (refine wFd ?_ ?_; (first | refine decide_eq_false ?_ | rw [beq_eq_false_iff_ne] | rw [bne_eq_false_iff_eq]); exact (by (try simp only [ww] at *); omega); refine wGo ?_; ((conv => arg 5; whnf); repeat (refine xS ?_; conv => arg 5; whnf)))
    refine wC (fun h3 => ?_) (fun h3 => ?_)
    · obtain rfl : n = 1 := by
        have : (n : Int) = 1 := by simpa using h3
        omega
      (refine wGo ?_; ((conv => arg 5; whnf); repeat (refine xS ?_; conv => arg 5; whnf)))
      (repeat (refine wN ?_ ?_; exact (by (try simp only [ww] at *); omega); refine wGo ?_; ((conv => arg 5; whnf); repeat (refine xS ?_; conv => arg 5; whnf))))
      (refine wP _ _ (cellsNew_op Tryz.T_ok rfl rfl rfl) ?_; ((conv => arg 5; whnf); repeat (refine xS ?_; conv => arg 5; whnf)))
      (apply wP; exact (call_op rfl (entersB_of Tryz.func45 (by kernel_rfl)) rfl ((digest_can 108 [(h 0).l] (short1 _ _ (by simp [H8.l_len]))).at [0, 18] ⟨lend_plain rfl, lend_parts [(h 0).l] rfl rfl rfl ⟨lend_elem (i := 0) rfl rfl rfl (by omega) (fun _ _ => rfl) rfl, trivial⟩, trivial⟩ trivial)); ((conv => arg 5; whnf); repeat (refine xS ?_; conv => arg 5; whnf)))
      exact wD (Ends.plain (.inr rfl) rfl rfl)
    · have h3' : n ≠ 1 := by
        intro e; subst e; simp at h3
      have a1 := half_pos n
      have a2 := half_lt (n := n) (by omega)
      (refine wGo ?_; ((conv => arg 5; whnf); repeat (refine xS ?_; conv => arg 5; whnf)))
      (apply wP; exact (call_op rfl (entersB_of Tryz.func195 (by kernel_rfl)) rfl ((cut_can n (by omega) h2).at [] ⟨lend_plain rfl, trivial⟩ trivial)); ((conv => arg 5; whnf); repeat (refine xS ?_; conv => arg 5; whnf)))
      (repeat (refine wN ?_ ?_; exact (by (try simp only [ww] at *); omega); refine wGo ?_; ((conv => arg 5; whnf); repeat (refine xS ?_; conv => arg 5; whnf))))
      (apply wP; exact (call_op rfl (entersB_of Tryz.func161 (by kernel_rfl)) rfl ((root_can (halfN n) a1 (by omega) h).at [0] ⟨lend_ro rfl rfl (by omega) (fun i _ => by rw [Nat.zero_add]), trivial⟩ trivial)); ((conv => arg 5; whnf); repeat (refine xS ?_; conv => arg 5; whnf)))
      (repeat (refine wN ?_ ?_; exact (by (try simp only [ww] at *); omega); refine wGo ?_; ((conv => arg 5; whnf); repeat (refine xS ?_; conv => arg 5; whnf))))
      simp only [Nat.zero_add, Int.toNat_natCast]
      (apply wP; exact (call_op rfl (entersB_of Tryz.func161 (by kernel_rfl)) rfl ((root_can (n - halfN n) (by omega) (by omega) (fun i => h (halfN n + i))).at [0] ⟨lend_ro (lo := halfN n) rfl rfl (by omega) (fun i _ => rfl), trivial⟩ trivial)); ((conv => arg 5; whnf); repeat (refine xS ?_; conv => arg 5; whnf)))
      (apply wP; exact (call_op rfl (entersB_of Tryz.func182 (by kernel_rfl)) rfl ((rtwo_can 109 (rootN h (halfN n)) (rootN (fun i => h (halfN n + i)) (n - halfN n))).at [] ⟨lend_plain rfl, lend_plain rfl, lend_plain rfl, trivial⟩ trivial)); ((conv => arg 5; whnf); repeat (refine xS ?_; conv => arg 5; whnf)))
      refine wD (Ends.plain (.inr rfl) rfl ?_)
      rw [rootN_step (n := n) (by omega) h]
      rfl
  termination_by n => n
end Go.Proofs.YtnpkdoggfnlapaaGreatDoor
namespace Go.Proofs.YtnpkdoggfnlapaaGreatDoor
set_option maxRecDepth 100000
open Go.Sx
structure SigM where
  idx : Int
  opn : Nat → H8
  shut : Nat → H8
  path : Nat → H8
def SigM.cells (s : SigM) : List Value := .int .i64 s.idx :: (tabF (hashF s.opn) 0 16 ++ tabF (hashF s.shut) 0 16 ++ tabF (hashF s.path) 0 3)
def SigM.x (s : SigM) : CV := .agg (s.cells.map .raw)
theorem allB_congr {mk mk' : Nat → Nat → H8} (h : ∀ i, i < 16 → ∀ b, b < 2 → mk i b = mk' i b) : ∀ n, n ≤ 16 → allB mk n = allB mk' n
  | 0, _ => rfl
  | n + 1, hn => by simp only [allB]; rw [allB_congr h n (by omega), h n (by omega) 0 (by decide), h n (by omega) 1 (by decide)]
theorem pubH_congr {mk mk' : Nat → Nat → H8} (h : ∀ i, i < 16 → ∀ b, b < 2 → mk i b = mk' i b) : pubH mk = pubH mk' := by
  unfold pubH; rw [allB_congr h 16 (Nat.le_refl _)]
def pubS (seed : H8) (k : Nat) : H8 := pubH fun i b => markH (secretH seed (k : Int) (i : Int) (b : Int))
theorem pub_signed (seed : H8) (k : Nat) (m : H8) : pubH (markOf m (openS seed (k : Int) m) (shutS seed (k : Int) m)) = pubS seed k := by
  refine pubH_congr fun i _ b hb => ?_
  unfold markOf openS shutS
  have h2 := bitN_cases m i
  split
  · rename_i e; rw [e]
  · have : b = 1 - bitN m i := by omega
    rw [this]
theorem hash_next {g : Nat → H8} {f : Nat → List Value} {L k : Nat} (hf : f 0 = (g L).cells) (hk : k < L + 1) : joinF (hashF g) L f k = hashF g k := by
  simp only [joinF, nblt]
  by_cases h : k < L
  · simp [h]
  · obtain rfl : k = L := by omega
    simp [hf, hashF]
def pubsSt (seed : H8) (k : Nat) : St :=
  ⟨[none, some (XV.sv (.ptr 1 0 0 0)), none, some (XV.sv (.slc 2 8 0 k)), some (XV.int .i64 k)] ++ List.replicate 21 none,
   [(1, .cells 29 (seed.cells.map .raw)), (2, .vec 29 8 k (hashF (pubS seed)))], 3⟩
set_option maxHeartbeats 2000000 in
theorem publics_can (seed : H8) : Makes Tryz.prog 162 [.plain seed.x] [] (XV.sv (.slc 0 8 0 8)) (.vec 29 8 8 (hashF (pubS seed))) := by
  refine Makes.of Tryz.T_ok Tryz.func162 rfl _ _ _ _ rfl rfl rfl rfl 2 (fun C hC => ?_)
  (replace hC : C.n0 = 1 := hC; change Tri _ _ _ ⟨_, _, 1⟩ _)
  (refine Tri.cut 2 Tryz.mixed Tryz.T_ok ?_; ((conv => arg 5; whnf); repeat (refine xS ?_; conv => arg 5; whnf)))
  refine wD <| cutG <| Tri.ent (Ent.nils (t := 3) rfl 29 8) <| Tri.seq ?_
  (refine Tri.cut 1 Tryz.mixed Tryz.T_ok ?_; ((conv => arg 5; whnf); repeat (refine xS ?_; conv => arg 5; whnf)))
  refine wD <| cutG <| Tri.block ?_
  refine Tri.loop (α := { k : Nat // k ≤ 8 }) (fun k => pubsSt seed k.1) (fun k => 8 - k.1) ⟨0, Nat.zero_le _⟩ ?_ ?_
  · ((try dsimp only); refine Ent.renC [0, 1, 4] hC ?_ ?_ <;> repeat' (first | exact trivial | exact rfl | exact ⟨_, rfl, rfl, rfl, Nat.le_refl _, fun _ _ => rfl⟩ | exact ⟨_, rfl, rfl, rfl, fun _ _ => rfl⟩ | exact ⟨_, rfl, rfl, rfl⟩ | exact ⟨_, rfl, rfl⟩ | refine ⟨_, rfl, rfl, rfl, by omega, fun k hk => ?_⟩ | refine ⟨?_, ?_⟩ | fail))
    exact absurd hk (Nat.not_lt_zero _)
  rintro ⟨k, hk⟩
  dsimp only
  (refine Tri.cut 1 Tryz.mixed Tryz.T_ok ?_; ((conv => arg 5; whnf); repeat (refine xS ?_; conv => arg 5; whnf)))
  refine wC (fun h1 => ?_) (fun h1 => ?_)
  · (refine wGo ?_; ((conv => arg 5; whnf); repeat (refine xS ?_; conv => arg 5; whnf)))
    have h1' : k < 8 := (by (try simp only [ww] at *); omega)
    have hw : IntKind.i64.wrap ((k : Int) + 1) = ((k + 1 : Nat) : Int) := (by (try simp only [ww] at *); omega)
    refine wD <| cutG <| Tri.seq <| Tri.block <| Tri.of Tryz.mixed Tryz.T_ok ?_
    (refine wBegin ?_; ((conv => arg 5; whnf); repeat (refine xS ?_; conv => arg 5; whnf)))
    (apply wP; exact (call_op rfl (entersB_of Tryz.func165 (by kernel_rfl)) rfl ((sign_can seed (k : Int) zeroH).at [] ⟨lend_plain rfl, lend_plain rfl, lend_plain rfl, trivial⟩ trivial)); ((conv => arg 5; whnf); repeat (refine xS ?_; conv => arg 5; whnf)))
    (apply wP; exact (call_op rfl (entersB_of Tryz.func196 (by kernel_rfl)) rfl ((rpublic_can zeroH (openS seed (k : Int) zeroH) (shutS seed (k : Int) zeroH)).at [] ⟨lend_plain rfl, lend_plain rfl, lend_plain rfl, trivial⟩ trivial)); ((conv => arg 5; whnf); repeat (refine xS ?_; conv => arg 5; whnf)))
    (refine wP _ _ (append_op Tryz.T_ok rfl rfl rfl rfl rfl [2, 21] (old_vec rfl rfl (Nat.le_refl _) rfl) (new_vec (lo := 0) rfl rfl (Nat.le_refl _) rfl) rfl (lt1 rfl) (by simp only [maxLen]; omega) (by dsimp only; omega)) ?_; ((conv => arg 5; whnf); repeat (refine xS ?_; conv => arg 5; whnf)))
    refine wD <| blockN <| cutG <| Tri.of Tryz.mixed Tryz.T_ok ?_
    (refine wBegin ?_; ((conv => arg 5; whnf); repeat (refine xS ?_; conv => arg 5; whnf)))
    refine wD <| loopN ⟨⟨k + 1, h1'⟩, by dsimp only; omega, ?_⟩
    rw [hw]
    ((try dsimp only); refine Ent.renC [0, 1, 22] hC ?_ ?_ <;> repeat' (first | exact trivial | exact rfl | exact ⟨_, rfl, rfl, rfl, Nat.le_refl _, fun _ _ => rfl⟩ | exact ⟨_, rfl, rfl, rfl, fun _ _ => rfl⟩ | exact ⟨_, rfl, rfl, rfl⟩ | exact ⟨_, rfl, rfl⟩ | refine ⟨_, rfl, rfl, rfl, by omega, fun k hk => ?_⟩ | refine ⟨?_, ?_⟩ | fail))
    rename_i j hj
    exact hash_next (g := pubS seed) (L := j) (congrArg H8.cells (pub_signed seed j zeroH)) hk
  · (refine wGo ?_; ((conv => arg 5; whnf); repeat (refine xS ?_; conv => arg 5; whnf)))
    have h1' : k = 8 := (by (try simp only [ww] at *); omega)
    subst h1'
    refine wD <| cutE <| loopX <| blockX <| cutG <| Tri.of Tryz.mixed Tryz.T_ok ?_
    (refine wBegin ?_; ((conv => arg 5; whnf); repeat (refine xS ?_; conv => arg 5; whnf)))
    exact wD (Ends.made (.inr rfl) (Ent.refl _) rfl (Nat.le_succ _) rfl)
def treeH (seed : H8) : H8 := rootN (pubS seed) 8
theorem tree_can (seed : H8) : Reads Tryz.prog 117 [.plain seed.x] [] (hashX (treeH seed)) := by
  refine Reads.of Tryz.T_ok Tryz.func117 rfl _ _ _ rfl rfl (fun C hC => ?_)
  (replace hC : C.n0 = 1 := hC; change Tri _ _ _ ⟨_, _, 1⟩ _)
  refine Tri.of Tryz.mixed Tryz.T_ok ?_
  (refine wBegin ?_; ((conv => arg 5; whnf); repeat (refine xS ?_; conv => arg 5; whnf)))
  (apply wP; exact (call_op rfl (entersB_of Tryz.func162 (by kernel_rfl)) rfl ((publics_can seed).at [] ⟨lend_plain rfl, trivial⟩ trivial)); ((conv => arg 5; whnf); repeat (refine xS ?_; conv => arg 5; whnf)))
  (apply wP; exact (call_op rfl (entersB_of Tryz.func161 (by kernel_rfl)) rfl ((root_can 8 (by decide) (by decide) (pubS seed)).at [4] ⟨lend_vec (lo := 0) rfl rfl (by decide) (fun i _ => by rw [Nat.zero_add]), trivial⟩ trivial)); ((conv => arg 5; whnf); repeat (refine xS ?_; conv => arg 5; whnf)))
  exact wD (Ends.plain (.inr rfl) rfl rfl)
end Go.Proofs.YtnpkdoggfnlapaaGreatDoor
