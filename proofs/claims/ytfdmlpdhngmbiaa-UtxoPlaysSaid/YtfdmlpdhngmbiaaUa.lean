/- Points, coins, sets: how they are written in cells; what a map of coins needs of a point. -/
import Derived.Test.YtfdmlpdhngmbiaaSxS
import Derived.Test.YtfdmlpdhngmbiaaMoney
namespace Go.Proofs.Ytfdmlpdhngmbiaa
open Go.Sx

def u8 (x : UInt8) : Value := .int .u8 (x.toNat : Int)
def i64 (x : Int64) : Value := .int .i64 x.toInt
theorem u8_wf (x : UInt8) : (Lit.int .u8 (x.toNat : Int)).wf = true := by
  have := x.toNat_lt
  have e1 : IntKind.u8.min = 0 := rfl
  have e2 : IntKind.u8.max = 255 := rfl
  simp [Lit.wf, e1, e2]
  omega
theorem i64_wf (x : Int64) : (Lit.int .i64 x.toInt).wf = true := by
  have h1 := x.le_toInt
  have h2 := x.toInt_lt
  have e1 : IntKind.i64.min = -9223372036854775808 := rfl
  have e2 : IntKind.i64.max = 9223372036854775807 := rfl
  simp [Lit.wf, e1, e2]
  omega

structure H8 where
  (b0 b1 b2 b3 b4 b5 b6 b7 : UInt8)
  deriving DecidableEq, Inhabited
def H8.cells (h : H8) : List Value := [u8 h.b0, u8 h.b1, u8 h.b2, u8 h.b3, u8 h.b4, u8 h.b5, u8 h.b6, u8 h.b7]

structure Pt where
  tx : H8
  no : Int64
  deriving DecidableEq, Inhabited
def Pt.cells (p : Pt) : List Value := [u8 p.tx.b0, u8 p.tx.b1, u8 p.tx.b2, u8 p.tx.b3, u8 p.tx.b4, u8 p.tx.b5, u8 p.tx.b6, u8 p.tx.b7, i64 p.no]
def Pt.v (p : Pt) : Value := .agg p.cells.toArray

structure Coin where
  to : H8
  amt : Int64
  height : Int64
  base : Bool
  deriving DecidableEq, Inhabited
def Coin.cells (c : Coin) : List Value := [u8 c.to.b0, u8 c.to.b1, u8 c.to.b2, u8 c.to.b3, u8 c.to.b4, u8 c.to.b5, u8 c.to.b6, u8 c.to.b7, i64 c.amt, i64 c.height, .bool c.base]
def Coin.v (c : Coin) : Value := .agg c.cells.toArray
def coin0 : Coin := ⟨⟨0, 0, 0, 0, 0, 0, 0, 0⟩, 0, 0, false⟩

structure Stp where
  p : Pt
  c : Coin
  added : Bool
  deriving DecidableEq, Inhabited
def Stp.cells (s : Stp) : List Value := [u8 s.p.tx.b0, u8 s.p.tx.b1, u8 s.p.tx.b2, u8 s.p.tx.b3, u8 s.p.tx.b4, u8 s.p.tx.b5, u8 s.p.tx.b6, u8 s.p.tx.b7, i64 s.p.no,
  u8 s.c.to.b0, u8 s.c.to.b1, u8 s.c.to.b2, u8 s.c.to.b3, u8 s.c.to.b4, u8 s.c.to.b5, u8 s.c.to.b6, u8 s.c.to.b7, i64 s.c.amt, i64 s.c.height, .bool s.c.base, .bool s.added]

theorem u8_inj {a b : UInt8} (h : u8 a = u8 b) : a = b := by
  simp only [u8, Value.int.injEq, true_and] at h
  exact UInt8.toNat_inj.1 (by omega)
theorem i64_inj {a b : Int64} (h : i64 a = i64 b) : a = b := by
  simp only [i64, Value.int.injEq, true_and] at h
  exact Int64.toInt_inj.1 h

theorem Pt.inj (a b : Pt) (h : a.v = b.v) : a = b := by
  have h : a.cells = b.cells := by
    have := congrArg (fun v => v.cells.toList) h
    simpa [Pt.v, Value.cells] using this
  obtain ⟨⟨_, _, _, _, _, _, _, _⟩, _⟩ := a
  obtain ⟨⟨_, _, _, _, _, _, _, _⟩, _⟩ := b
  simp only [Pt.cells, List.cons.injEq] at h
  obtain ⟨h0, h1, h2, h3, h4, h5, h6, h7, h8, _⟩ := h
  rw [u8_inj h0, u8_inj h1, u8_inj h2, u8_inj h3, u8_inj h4, u8_inj h5, u8_inj h6, u8_inj h7, i64_inj h8]

theorem pt_row : (36 : TypeId) < Try.prog.types.size := of_decide_eq_true (by kernel_rfl)
theorem pt_deep : Try.prog.keyTypeAt 3 36 = true := by kernel_rfl
theorem laid : laidOutB Try.prog = true := by kernel_rfl
theorem pt_law : WideMaps.KeyLaw Try.prog 36 := deep_law_laid laid (m := 3) (by omega) pt_row pt_deep (by rw [Try.underlying36])
theorem pt_key (p : Pt) : ∃ l, keyOf Try.prog 36 p.v = some l := by
  have hf : p.v.formed Try.prog 36 = true := by kernel_rfl
  have hk : Try.prog.keyType 36 = true := by kernel_rfl
  have hl : ∀ m, ∃ ls, Try.prog.keyLits (m + 3) 36 p.cells = some ls := by
    intro m
    have c0 : Try.prog.cellsOf 36 = 9 := by kernel_rfl
    have c1 : Try.prog.cellsOf 34 = 8 := by kernel_rfl
    have c2 : Try.prog.cellsOf 5 = 1 := by kernel_rfl
    have c3 : Try.prog.cellsOf 3 = 1 := by kernel_rfl
    have w0 := u8_wf p.tx.b0
    have w1 := u8_wf p.tx.b1
    have w2 := u8_wf p.tx.b2
    have w3 := u8_wf p.tx.b3
    have w4 := u8_wf p.tx.b4
    have w5 := u8_wf p.tx.b5
    have w6 := u8_wf p.tx.b6
    have w7 := u8_wf p.tx.b7
    have w8 := i64_wf p.no
    simp [Program.keyLits, Try.underlying36, Try.underlying34, Try.underlying5, Try.underlying3, c0, c1, c2, c3, Pt.cells, u8, i64, List.range, List.range.loop, w0, w1, w2, w3, w4, w5, w6, w7, w8]
  have hs : Try.prog.types.size + 1 = (Try.prog.types.size - 2) + 3 := by kernel_rfl
  obtain ⟨ls, h⟩ := hl (Try.prog.types.size - 2)
  refine ⟨.string (keyBytes ls), ?_⟩
  unfold keyOf
  rw [Try.underlying36]
  simp only [hf, hk, Bool.and_self, if_true]
  rw [hs]
  have e : p.v.cells.toList = p.cells := by simp [Pt.v, Value.cells]
  rw [e, h]
  rfl
theorem ptK : KeyL Try.prog 36 Pt.v := KeyL.of (Maps.Keyed.of_law pt_law) Pt.inj pt_key
end Go.Proofs.Ytfdmlpdhngmbiaa
