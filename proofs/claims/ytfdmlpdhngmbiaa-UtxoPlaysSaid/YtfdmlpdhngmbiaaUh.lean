/- Hashes, points and coins held against one another; the reference's order of points. -/
import Derived.Test.YtfdmlpdhngmbiaaUg
import Derived.Test.YtfdmlpdhngmbiaaSxY
namespace Go.Proofs.Ytfdmlpdhngmbiaa
open Go.Sx

theorem fitU (x : UInt8) : (Kd.int .u8).fits (u8 x) := ⟨_, rfl, u8_wf x⟩
theorem fitI (x : Int64) : (Kd.int .i64).fits (i64 x) := ⟨_, rfl, i64_wf x⟩
theorem fitB (b : Bool) : Kd.bool.fits (.bool b) := ⟨b, rfl⟩

def H8.v (h : H8) : Value := .agg h.cells.toArray
theorem H8.inj (a b : H8) (h : a.v = b.v) : a = b := by
  have h : a.cells = b.cells := by
    have := congrArg (fun v => v.cells.toList) h
    simpa [H8.v, Value.cells] using this
  obtain ⟨_, _, _, _, _, _, _, _⟩ := a
  obtain ⟨_, _, _, _, _, _, _, _⟩ := b
  simp only [H8.cells, List.cons.injEq] at h
  obtain ⟨h0, h1, h2, h3, h4, h5, h6, h7, _⟩ := h
  rw [u8_inj h0, u8_inj h1, u8_inj h2, u8_inj h3, u8_inj h4, u8_inj h5, u8_inj h6, u8_inj h7]
theorem bool_inj {a b : Bool} (h : Value.bool a = Value.bool b) : a = b := by cases h; rfl
theorem Coin.inj (a b : Coin) (h : a.v = b.v) : a = b := by
  have h : a.cells = b.cells := by
    have := congrArg (fun v => v.cells.toList) h
    simpa [Coin.v, Value.cells] using this
  obtain ⟨⟨_, _, _, _, _, _, _, _⟩, _, _, _⟩ := a
  obtain ⟨⟨_, _, _, _, _, _, _, _⟩, _, _, _⟩ := b
  simp only [Coin.cells, List.cons.injEq] at h
  obtain ⟨h0, h1, h2, h3, h4, h5, h6, h7, h8, h9, h10, _⟩ := h
  rw [u8_inj h0, u8_inj h1, u8_inj h2, u8_inj h3, u8_inj h4, u8_inj h5, u8_inj h6, u8_inj h7, i64_inj h8, i64_inj h9, bool_inj h10]

def hashKinds : List Kd := [.int .u8, .int .u8, .int .u8, .int .u8, .int .u8, .int .u8, .int .u8, .int .u8]
def coinKinds : List Kd := hashKinds ++ [.int .i64, .int .i64, .bool]
theorem hash_fits (h : H8) : Fits hashKinds h.cells :=
  ⟨_, _, rfl, fitU _, _, _, rfl, fitU _, _, _, rfl, fitU _, _, _, rfl, fitU _, _, _, rfl, fitU _, _, _, rfl, fitU _, _, _, rfl, fitU _, _, _, rfl, fitU _, rfl⟩
theorem coin_fits (h : Coin) : Fits coinKinds h.cells :=
  ⟨_, _, rfl, fitU _, _, _, rfl, fitU _, _, _, rfl, fitU _, _, _, rfl, fitU _, _, _, rfl, fitU _, _, _, rfl, fitU _, _, _, rfl, fitU _, _, _, rfl, fitU _, _, _, rfl, fitI _, _, _, rfl, fitI _, _, _, rfl, fitB _, rfl⟩

theorem hash_row : (34 : TypeId) < Try.prog.types.size := of_decide_eq_true (by kernel_rfl)
theorem hash_deep : Try.prog.keyTypeAt 3 34 = true := by kernel_rfl
theorem hash_deep8 : Try.prog.keyTypeAt 8 34 = true := by kernel_rfl
theorem hash_keyT : Try.prog.keyType 34 = true := by kernel_rfl
theorem hash_law : WideMaps.KeyLaw Try.prog 34 := deep_law_laid laid (m := 3) (by omega) hash_row hash_deep (by rw [Try.underlying34])
theorem types_many : 8 ≤ Try.prog.types.size + 1 := of_decide_eq_true (by kernel_rfl)
theorem hash_cells : hashKinds.length = Try.prog.cellsOf 34 := by kernel_rfl
theorem hash_key (h : H8) : ∃ l, keyOf Try.prog 34 h.v = some l := keyOf_fits Try.T_ok (f := 8) (ks := hashKinds) rfl hash_deep8 hash_keyT types_many (by rw [Try.underlying34]) (hash_fits h) hash_cells
theorem hash_noguard : Try.prog.eqGuardType Try.prog.depth 34 = false := by kernel_rfl
theorem hashE : EqK Try.prog 34 H8.v := EqK.of (m := 3) hash_law (by omega) hash_deep (by rw [Try.underlying34]) hash_key H8.inj hash_noguard (fun a => ⟨_, rfl⟩)
theorem pt_noguard : Try.prog.eqGuardType Try.prog.depth 36 = false := by kernel_rfl
theorem ptE : EqK Try.prog 36 Pt.v := EqK.of (m := 3) pt_law (by omega) pt_deep (by rw [Try.underlying36]) pt_key Pt.inj pt_noguard (fun a => ⟨_, rfl⟩)
theorem coin_row : (44 : TypeId) < Try.prog.types.size := of_decide_eq_true (by kernel_rfl)
theorem coin_deep : Try.prog.keyTypeAt 8 44 = true := by kernel_rfl
theorem coin_keyT : Try.prog.keyType 44 = true := by kernel_rfl
theorem coin_law : WideMaps.KeyLaw Try.prog 44 := deep_law_laid laid (m := 8) (by omega) coin_row coin_deep (by rw [Try.underlying44])
theorem coin_cells : coinKinds.length = Try.prog.cellsOf 44 := by kernel_rfl
theorem coin_key (h : Coin) : ∃ l, keyOf Try.prog 44 h.v = some l := keyOf_fits Try.T_ok (f := 8) (ks := coinKinds) rfl coin_deep coin_keyT types_many (by rw [Try.underlying44]) (coin_fits h) coin_cells
theorem coin_noguard : Try.prog.eqGuardType Try.prog.depth 44 = false := by kernel_rfl
theorem coinE : EqK Try.prog 44 Coin.v := EqK.of (m := 8) coin_law (by omega) coin_deep (by rw [Try.underlying44]) coin_key Coin.inj coin_noguard (fun a => ⟨_, rfl⟩)

/-- One point stands before another one. -/
def ltPt (a b : Pt) : Bool := ltL a.tx.l b.tx.l || (decide (a.tx = b.tx) && decide (a.no.toInt < b.no.toInt))

set_option maxRecDepth 100000 in
theorem lessPoint_spec (a b : Pt) (M : Mem) (d : Nat) : CallSpec Try.prog 23 [a.cv, b.cv] M d { v := XV.bool (ltPt a b) } [] := by
  refine spec_pureT Try.T_ok Try.func23 rfl [a.cv, b.cv] _ rfl rfl (fun C hC => ?_) M d
  refine Tri.of Try.mixed Try.T_ok ?_
  (refine wBegin ?_; ((conv => arg 5; whnf); repeat ((first | (with_reducible refine wT ?_) | (with_reducible refine wF ?_) | (with_reducible refine wO (by kernel_rfl) ?_)); refine wGo ?_; (conv => arg 5; whnf))))
  (refine wP _ _ (call_op rfl (entersB_of Try.func33 (by kernel_rfl)) rfl (refLess_spec a.tx b.tx _ _)) ?_; ((conv => arg 5; whnf); repeat ((first | (with_reducible refine wT ?_) | (with_reducible refine wF ?_) | (with_reducible refine wO (by kernel_rfl) ?_)); refine wGo ?_; (conv => arg 5; whnf))))
  refine wC (fun h1 => ?_) (fun h1 => ?_)
  · (refine wGo ?_; ((conv => arg 5; whnf); repeat ((first | (with_reducible refine wT ?_) | (with_reducible refine wF ?_) | (with_reducible refine wO (by kernel_rfl) ?_)); refine wGo ?_; (conv => arg 5; whnf))))
    refine Ends.plain (.inr rfl) rfl ?_
    simp [ltPt, h1]
  (refine wGo ?_; ((conv => arg 5; whnf); repeat ((first | (with_reducible refine wT ?_) | (with_reducible refine wF ?_) | (with_reducible refine wO (by kernel_rfl) ?_)); refine wGo ?_; (conv => arg 5; whnf))))
  (refine wP _ _ (eq_op hashE rfl a.tx b.tx rfl rfl) ?_; ((conv => arg 5; whnf); repeat ((first | (with_reducible refine wT ?_) | (with_reducible refine wF ?_) | (with_reducible refine wO (by kernel_rfl) ?_)); refine wGo ?_; (conv => arg 5; whnf))))
  refine wC (fun h2 => ?_) (fun h2 => ?_)
  · (refine wGo ?_; ((conv => arg 5; whnf); repeat ((first | (with_reducible refine wT ?_) | (with_reducible refine wF ?_) | (with_reducible refine wO (by kernel_rfl) ?_)); refine wGo ?_; (conv => arg 5; whnf))))
    refine Ends.plain (.inr rfl) rfl ?_
    simp only [decide_eq_true_eq] at h2
    unfold ltPt
    rw [h1]
    simp [h2]
  · (refine wGo ?_; ((conv => arg 5; whnf); repeat ((first | (with_reducible refine wT ?_) | (with_reducible refine wF ?_) | (with_reducible refine wO (by kernel_rfl) ?_)); refine wGo ?_; (conv => arg 5; whnf))))
    refine Ends.plain (.inr rfl) rfl ?_
    simp only [decide_eq_false_iff_not] at h2
    unfold ltPt
    rw [h1]
    simp [h2]
end Go.Proofs.Ytfdmlpdhngmbiaa
