/- The reference's order of hashes and points. -/
import Derived.Test.YtfdmlpdhngmbiaaUf
import Derived.Test.YtfdmlpdhngmbiaaSxX
namespace Go.Proofs.Ytfdmlpdhngmbiaa
open Go.Sx

abbrev H8.cv (h : H8) : CV := .agg (h.cells.map .raw)
def H8.l (h : H8) : List UInt8 := [h.b0, h.b1, h.b2, h.b3, h.b4, h.b5, h.b6, h.b7]
def ltL : List UInt8 → List UInt8 → Bool
  | x :: xs, y :: ys => if x = y then ltL xs ys else decide (x < y)
  | _, _ => false

def lessSt (a b : H8) (i : Nat) : St := ⟨[none, none, some (XV.sv (.ptr 0 0 0 0)), some (XV.sv (.ptr 1 0 0 0)), some (XV.bool false), some (XV.int .i64 i)] ++ List.replicate 18 none, [(0, .cells 34 (a.cells.map .raw)), (1, .cells 34 (b.cells.map .raw))], 2⟩

theorem u8_ne {x y : UInt8} : ((x.toNat : Int) != (y.toNat : Int)) = !decide (x = y) := by
  by_cases h : x = y
  · subst h; simp
  · have : (x.toNat : Int) ≠ (y.toNat : Int) := fun e => h (UInt8.toNat_inj.1 (by omega))
    simp [h, this]
theorem u8_lt {x y : UInt8} : decide ((x.toNat : Int) < (y.toNat : Int)) = decide (x < y) := by
  congr 1
  rw [UInt8.lt_iff_toNat_lt]
  simp

set_option maxHeartbeats 2000000 in
set_option maxRecDepth 100000 in
theorem refLess_spec (a b : H8) (M : Mem) (d : Nat) : CallSpec Try.prog 33 [a.cv, b.cv] M d { v := XV.bool (ltL a.l b.l) } [] := by
  refine spec_pureT Try.T_ok Try.func33 rfl [a.cv, b.cv] _ rfl rfl (fun C hC => ?_) M d
  have hC0 : ∀ i, i < C.n0 → ([0, 1] : List Nat)[i]? = some i := fun i hi => by rw [hC] at hi; omega
  have hC1 : C.n0 ≤ 2 := by rw [hC]; decide
  (refine Tri.cut 1 Try.mixed Try.T_ok ?_; ((conv => arg 5; whnf); repeat ((first | (with_reducible refine wT ?_) | (with_reducible refine wF ?_) | (with_reducible refine wO (by kernel_rfl) ?_)); refine wGo ?_; (conv => arg 5; whnf))))
  refine wD <| cutG <| Tri.seq ?_
  (refine Tri.cut 1 Try.mixed Try.T_ok ?_; ((conv => arg 5; whnf); repeat ((first | (with_reducible refine wT ?_) | (with_reducible refine wF ?_) | (with_reducible refine wO (by kernel_rfl) ?_)); refine wGo ?_; (conv => arg 5; whnf))))
  refine wD <| cutG <| Tri.block ?_
  refine Tri.loop (α := { i : Nat // i ≤ 8 ∧ ltL a.l b.l = ltL (a.l.drop i) (b.l.drop i) }) (fun i => lessSt a b i.1) (fun i => 8 - i.1) ⟨0, by decide, rfl⟩ ?_ ?_
  · exact Ent.ren [0, 1] (by decide) rfl hC0 hC1 rfl ⟨rfl, rfl, rfl, rfl, trivial⟩ ⟨⟨_, rfl, rfl, rfl⟩, ⟨_, rfl, rfl, rfl⟩, trivial⟩
  rintro ⟨i, hi, hlt⟩
  dsimp only
  have hcases : i = 8 ∨ i = 0 ∨ i = 1 ∨ i = 2 ∨ i = 3 ∨ i = 4 ∨ i = 5 ∨ i = 6 ∨ i = 7 := by omega
  rcases hcases with rfl | h
  · (refine Tri.cut 1 Try.mixed Try.T_ok ?_; ((conv => arg 5; whnf); repeat ((first | (with_reducible refine wT ?_) | (with_reducible refine wF ?_) | (with_reducible refine wO (by kernel_rfl) ?_)); refine wGo ?_; (conv => arg 5; whnf))))
    refine wC (fun h => absurd h (by decide)) (fun _ => ?_)
    (refine wGo ?_; ((conv => arg 5; whnf); repeat ((first | (with_reducible refine wT ?_) | (with_reducible refine wF ?_) | (with_reducible refine wO (by kernel_rfl) ?_)); refine wGo ?_; (conv => arg 5; whnf))))
    refine wD <| cutE <| loopX <| blockX <| cutG <| Tri.of Try.mixed Try.T_ok ?_
    (refine wBegin ?_; ((conv => arg 5; whnf); repeat ((first | (with_reducible refine wT ?_) | (with_reducible refine wF ?_) | (with_reducible refine wO (by kernel_rfl) ?_)); refine wGo ?_; (conv => arg 5; whnf))))
    refine Ends.plain (.inr rfl) rfl ?_
    rw [hlt]
    rfl
  rcases h with rfl | rfl | rfl | rfl | rfl | rfl | rfl | rfl
  all_goals
    (refine Tri.cut 1 Try.mixed Try.T_ok ?_; ((conv => arg 5; whnf); repeat ((first | (with_reducible refine wT ?_) | (with_reducible refine wF ?_) | (with_reducible refine wO (by kernel_rfl) ?_)); refine wGo ?_; (conv => arg 5; whnf))))
    refine wC (fun _ => ?_) (fun h => absurd h (by decide))
    (refine wGo ?_; ((conv => arg 5; whnf); repeat ((first | (with_reducible refine wT ?_) | (with_reducible refine wF ?_) | (with_reducible refine wO (by kernel_rfl) ?_)); refine wGo ?_; (conv => arg 5; whnf))))
    refine wD <| cutG <| Tri.seq <| Tri.block <| Tri.of Try.mixed Try.T_ok ?_
    (refine wBegin ?_; ((conv => arg 5; whnf); repeat ((first | (with_reducible refine wT ?_) | (with_reducible refine wF ?_) | (with_reducible refine wO (by kernel_rfl) ?_)); refine wGo ?_; (conv => arg 5; whnf))))
    refine wN (by decide) ?_
    (refine wGo ?_; ((conv => arg 5; whnf); repeat ((first | (with_reducible refine wT ?_) | (with_reducible refine wF ?_) | (with_reducible refine wO (by kernel_rfl) ?_)); refine wGo ?_; (conv => arg 5; whnf))))
    refine wN (by decide) ?_
    (refine wGo ?_; ((conv => arg 5; whnf); repeat ((first | (with_reducible refine wT ?_) | (with_reducible refine wF ?_) | (with_reducible refine wO (by kernel_rfl) ?_)); refine wGo ?_; (conv => arg 5; whnf))))
    refine wC (fun h1 => ?_) (fun h1 => ?_)
    · (refine wGo ?_; ((conv => arg 5; whnf); repeat ((first | (with_reducible refine wT ?_) | (with_reducible refine wF ?_) | (with_reducible refine wO (by kernel_rfl) ?_)); refine wGo ?_; (conv => arg 5; whnf))))
      refine wN (by decide) ?_
      (refine wGo ?_; ((conv => arg 5; whnf); repeat ((first | (with_reducible refine wT ?_) | (with_reducible refine wF ?_) | (with_reducible refine wO (by kernel_rfl) ?_)); refine wGo ?_; (conv => arg 5; whnf))))
      refine wN (by decide) ?_
      (refine wGo ?_; ((conv => arg 5; whnf); repeat ((first | (with_reducible refine wT ?_) | (with_reducible refine wF ?_) | (with_reducible refine wO (by kernel_rfl) ?_)); refine wGo ?_; (conv => arg 5; whnf))))
      refine wD <| blockR <| cutR <| loopR <| blockR <| cutR <| Ends.plain (.inr rfl) rfl ?_
      rw [hlt]
      simp only [u8_ne, Bool.not_eq_true', decide_eq_false_iff_not] at h1
      simp [H8.l, ltL, h1, UInt8.lt_iff_toNat_lt]
    · (refine wGo ?_; ((conv => arg 5; whnf); repeat ((first | (with_reducible refine wT ?_) | (with_reducible refine wF ?_) | (with_reducible refine wO (by kernel_rfl) ?_)); refine wGo ?_; (conv => arg 5; whnf))))
      refine wD <| blockN <| cutG <| Tri.of Try.mixed Try.T_ok ?_
      (refine wBegin ?_; ((conv => arg 5; whnf); repeat ((first | (with_reducible refine wT ?_) | (with_reducible refine wF ?_) | (with_reducible refine wO (by kernel_rfl) ?_)); refine wGo ?_; (conv => arg 5; whnf))))
      simp only [u8_ne, Bool.not_eq_false', decide_eq_true_eq] at h1
      refine wD <| loopN ?_
      first |
        exact ⟨⟨1, by decide, by rw [hlt]; simp [H8.l, ltL, h1]⟩, by simp, Ent.ren [0, 1] (by decide) rfl hC0 hC1 rfl ⟨rfl, rfl, rfl, rfl, trivial⟩ ⟨⟨_, rfl, rfl, rfl⟩, ⟨_, rfl, rfl, rfl⟩, trivial⟩⟩ |
        exact ⟨⟨2, by decide, by rw [hlt]; simp [H8.l, ltL, h1]⟩, by simp, Ent.ren [0, 1] (by decide) rfl hC0 hC1 rfl ⟨rfl, rfl, rfl, rfl, trivial⟩ ⟨⟨_, rfl, rfl, rfl⟩, ⟨_, rfl, rfl, rfl⟩, trivial⟩⟩ |
        exact ⟨⟨3, by decide, by rw [hlt]; simp [H8.l, ltL, h1]⟩, by simp, Ent.ren [0, 1] (by decide) rfl hC0 hC1 rfl ⟨rfl, rfl, rfl, rfl, trivial⟩ ⟨⟨_, rfl, rfl, rfl⟩, ⟨_, rfl, rfl, rfl⟩, trivial⟩⟩ |
        exact ⟨⟨4, by decide, by rw [hlt]; simp [H8.l, ltL, h1]⟩, by simp, Ent.ren [0, 1] (by decide) rfl hC0 hC1 rfl ⟨rfl, rfl, rfl, rfl, trivial⟩ ⟨⟨_, rfl, rfl, rfl⟩, ⟨_, rfl, rfl, rfl⟩, trivial⟩⟩ |
        exact ⟨⟨5, by decide, by rw [hlt]; simp [H8.l, ltL, h1]⟩, by simp, Ent.ren [0, 1] (by decide) rfl hC0 hC1 rfl ⟨rfl, rfl, rfl, rfl, trivial⟩ ⟨⟨_, rfl, rfl, rfl⟩, ⟨_, rfl, rfl, rfl⟩, trivial⟩⟩ |
        exact ⟨⟨6, by decide, by rw [hlt]; simp [H8.l, ltL, h1]⟩, by simp, Ent.ren [0, 1] (by decide) rfl hC0 hC1 rfl ⟨rfl, rfl, rfl, rfl, trivial⟩ ⟨⟨_, rfl, rfl, rfl⟩, ⟨_, rfl, rfl, rfl⟩, trivial⟩⟩ |
        exact ⟨⟨7, by decide, by rw [hlt]; simp [H8.l, ltL, h1]⟩, by simp, Ent.ren [0, 1] (by decide) rfl hC0 hC1 rfl ⟨rfl, rfl, rfl, rfl, trivial⟩ ⟨⟨_, rfl, rfl, rfl⟩, ⟨_, rfl, rfl, rfl⟩, trivial⟩⟩ |
        exact ⟨⟨8, by decide, by rw [hlt]; simp [H8.l, ltL, h1]⟩, by simp, Ent.ren [0, 1] (by decide) rfl hC0 hC1 rfl ⟨rfl, rfl, rfl, rfl, trivial⟩ ⟨⟨_, rfl, rfl, rfl⟩, ⟨_, rfl, rfl, rfl⟩, trivial⟩⟩
end Go.Proofs.Ytfdmlpdhngmbiaa
