/- Parts Hr Hs Hw Yr Ym Yt Za Zb Zn Bw Ba Tj Tk Ra Rb Rc Rd. -/
import Derived.Test.YtnpkdoggfnlapaaGreatDoorG20
import Derived.Test.YtnpkdoggfnlapaaGreatDoorG11
import Derived.Test.YtnpkdoggfnlapaaGreatDoorG13
import Derived.Test.YtnpkdoggfnlapaaGreatDoorG09
import Derived.Test.YtnpkdoggfnlapaaGreatDoorG18
import Derived.Test.YtnpkdoggfnlapaaGreatDoorG19
import Derived.LaidMore
import Derived.LaidHandle
import Derived.MakeChecks
import Derived.Stop.Joined
set_option linter.unusedSimpArgs false
set_option linter.unusedVariables false
namespace Go.Proofs.YtnpkdoggfnlapaaGreatDoor
set_option maxRecDepth 100000
open Go.Sx
def w4v (a b c d : UInt8) : Nat := Nat.add (Nat.mul (Nat.add (Nat.mul (Nat.add (Nat.mul a.toNat 256) b.toNat) 256) c.toNat) 256) d.toNat
def w4 : List UInt8 → List Nat
  | a :: b :: c :: d :: r => w4v a b c d :: w4 r
  | _ => []
theorem w4_get : ∀ (i : Nat) (l : List UInt8), 4 * i + 3 < l.length → (w4 l).getD i 0 = w4v (l.getD (4 * i) 0) (l.getD (4 * i + 1) 0) (l.getD (4 * i + 2) 0) (l.getD (4 * i + 3) 0)
  | i, [], h => by simp at h
  | i, [_], h => by simp at h
  | i, [_, _], h => by simp only [List.length_cons, List.length_nil] at h; omega
  | i, [_, _, _], h => by simp only [List.length_cons, List.length_nil] at h; omega
  | 0, a :: b :: c :: d :: r, h => rfl
  | i + 1, a :: b :: c :: d :: r, h => by
    have := w4_get i r (by simp only [List.length_cons] at h; omega)
    show (w4 r).getD i 0 = _
    rw [this]
    rfl
theorem push_nat {w : Nat} (h : w < 16777216) (x : UInt8) : push (w : Int) x = ((Nat.add (Nat.mul w 256) x.toNat : Nat) : Int) := by
  have hx := x.toNat_lt
  have e1 : shlI .u32 (w : Int) 8 = ((Nat.mod (Nat.shiftLeft w 8) 4294967296 : Nat) : Int) := shl32_nat w 8 (by decide)
  have e2 : Nat.mod (Nat.shiftLeft w 8) 4294967296 = w <<< 8 := by
    show (w <<< 8) % 4294967296 = _
    rw [Nat.shiftLeft_eq]; omega
  have e3 : IntKind.u32.wrap (x.toNat : Int) = (x.toNat : Int) := by rw [IntKind.wrap_u32]; omega
  have b1 : B32 (w <<< 8) := by rw [Nat.shiftLeft_eq]; omega
  rw [push, e1, e2, e3, or_nat b1 (by omega)]
  congr 1
  show (w <<< 8) ||| x.toNat = w * 256 + x.toNat
  rw [← Nat.shiftLeft_add_eq_or_of_lt (by omega : x.toNat < 2 ^ 8), Nat.shiftLeft_eq]
theorem word_nat (b : Nat → UInt8) (i : Nat) : word b i = ((w4v (b (4 * i)) (b (4 * i + 1)) (b (4 * i + 2)) (b (4 * i + 3)) : Nat) : Int) ∧ B32 (w4v (b (4 * i)) (b (4 * i + 1)) (b (4 * i + 2)) (b (4 * i + 3))) := by
  have h0 := (b (4 * i)).toNat_lt
  have h1 := (b (4 * i + 1)).toNat_lt
  have h2 := (b (4 * i + 2)).toNat_lt
  have h3 := (b (4 * i + 3)).toNat_lt
  constructor
  · rw [word, show (0 : Int) = ((0 : Nat) : Int) from rfl, push_nat (by decide), push_nat, push_nat, push_nat]
    · show (((((0 * 256 + (b (4 * i)).toNat) * 256 + (b (4 * i + 1)).toNat) * 256 + (b (4 * i + 2)).toNat) * 256 + (b (4 * i + 3)).toNat : Nat) : Int) = _
      rw [Nat.zero_mul, Nat.zero_add]
      rfl
    · show ((0 * 256 + (b (4 * i)).toNat) * 256 + (b (4 * i + 1)).toNat) * 256 + (b (4 * i + 2)).toNat < _
      omega
    · show (0 * 256 + (b (4 * i)).toNat) * 256 + (b (4 * i + 1)).toNat < _
      omega
    · show 0 * 256 + (b (4 * i)).toNat < _
      omega
  · show (((b (4 * i)).toNat * 256 + (b (4 * i + 1)).toNat) * 256 + (b (4 * i + 2)).toNat) * 256 + (b (4 * i + 3)).toNat < _
    omega
theorem added_nat {h0 : Nat → Int} {b : Nat → UInt8} {a b' c d e f g h a2 b2 c2 d2 e2 f2 g2 h2 : Nat} (R : R8 h0 a b' c d e f g h) (R2 : R8 (stepsV h0 b 64) a2 b2 c2 d2 e2 f2 g2 h2) : R8 (blockW h0 b) (nadd a a2) (nadd b' b2) (nadd c c2) (nadd d d2) (nadd e e2) (nadd f f2) (nadd g g2) (nadd h h2) := by
  refine ⟨?_, ?_, ?_, ?_, ?_, ?_, ?_, ?_, mod_lt32 _, mod_lt32 _, mod_lt32 _, mod_lt32 _, mod_lt32 _, mod_lt32 _, mod_lt32 _, mod_lt32 _⟩
  · rw [blockW, R.h0, R2.h0, w32_nat]
  · rw [blockW, R.h1, R2.h1, w32_nat]
  · rw [blockW, R.h2, R2.h2, w32_nat]
  · rw [blockW, R.h3, R2.h3, w32_nat]
  · rw [blockW, R.h4, R2.h4, w32_nat]
  · rw [blockW, R.h5, R2.h5, w32_nat]
  · rw [blockW, R.h6, R2.h6, w32_nat]
  · rw [blockW, R.h7, R2.h7, w32_nat]
theorem getD_drop {E : Type} (l : List E) (n i : Nat) (d : E) : (l.drop n).getD i d = l.getD (n + i) d := by rw [List.getD_eq_getElem?_getD, List.getElem?_drop, ← List.getD_eq_getElem?_getD]
theorem nblocks_eq {α : Type} (l : List UInt8) (k : Nat → Nat → α) : ∀ m t, t + m = blocksN l → ∀ (a b c d e f g h : Nat), R8 (stateH l t) a b c d e f g h →
    ∃ x y : Nat, stateH l (blocksN l) 0 = (x : Int) ∧ stateH l (blocksN l) 1 = (y : Int) ∧ nblocks m ((w4 (padL l)).drop (16 * t)) a b c d e f g h k = k x y
  | 0, t, ht, a, b, c, d, e, f, g, h, R => by
    obtain rfl : t = blocksN l := by omega
    exact ⟨a, b, R.h0, R.h1, rfl⟩
  | m + 1, t, ht, a, b, c, d, e, f, g, h, R => by
    have hbl := blocks_eq l
    let ws : Nat → Nat := fun i => ((w4 (padL l)).drop (16 * t)).getD i 0
    have hW : WOk (blockAt l t) 0 ws := by
      intro i hi _
      have hg : ws i = w4v (blockAt l t (4 * i)) (blockAt l t (4 * i + 1)) (blockAt l t (4 * i + 2)) (blockAt l t (4 * i + 3)) := by
        show ((w4 (padL l)).drop (16 * t)).getD i 0 = _
        rw [getD_drop, w4_get _ _ (by omega)]
        simp only [blockAt, show 4 * (16 * t + i) = 64 * t + 4 * i by omega, Nat.add_assoc]
      have hw := word_nat (blockAt l t) i
      rw [hg, Nat.zero_add, sched_val _ 64 (by omega), if_pos hi]
      exact hw
    let K : Nat → Nat → Nat → Nat → Nat → Nat → Nat → Nat → α := fun a' b' c' d' e' f' g' h' => frc (nadd a a') fun a => frc (nadd b b') fun b => frc (nadd c c') fun c => frc (nadd d d') fun d => frc (nadd e e') fun e => frc (nadd f f') fun f => frc (nadd g g') fun g => frc (nadd h h') fun h => nblocks m (((w4 (padL l)).drop (16 * t)).drop 16) a b c d e f g h k
    obtain ⟨a2, b2, c2, d2, e2, f2, g2, h2, R2, hK⟩ := nrnd_eq (stateH l t) (blockAt l t) K 64 0 rfl a b c d e f g h R ws hW
    have hR : R8 (stateH l (t + 1)) _ _ _ _ _ _ _ _ := added_nat R R2
    obtain ⟨x, y, q1, q2, q3⟩ := nblocks_eq l k m (t + 1) (by omega) _ _ _ _ _ _ _ _ hR
    refine ⟨x, y, q1, q2, ?_⟩
    rw [← q3]
    have e1 : nblocks (m + 1) ((w4 (padL l)).drop (16 * t)) a b c d e f g h k = nrnd K (ksN.drop 0) a b c d e f g h (ws 0) (ws 1) (ws 2) (ws 3) (ws 4) (ws 5) (ws 6) (ws 7) (ws 8) (ws 9) (ws 10) (ws 11) (ws 12) (ws 13) (ws 14) (ws 15) := by
      show (frc (ws 0) fun w0 => frc (ws 1) fun w1 => frc (ws 2) fun w2 => frc (ws 3) fun w3 => frc (ws 4) fun w4 => frc (ws 5) fun w5 => frc (ws 6) fun w6 => frc (ws 7) fun w7 => frc (ws 8) fun w8 => frc (ws 9) fun w9 => frc (ws 10) fun w10 => frc (ws 11) fun w11 => frc (ws 12) fun w12 => frc (ws 13) fun w13 => frc (ws 14) fun w14 => frc (ws 15) fun w15 => nrnd K ksN a b c d e f g h w0 w1 w2 w3 w4 w5 w6 w7 w8 w9 w10 w11 w12 w13 w14 w15) = _
      simp only [frc_eq]
      rfl
    rw [e1, hK]
    show (frc (nadd a a2) fun a => frc (nadd b b2) fun b => frc (nadd c c2) fun c => frc (nadd d d2) fun d => frc (nadd e e2) fun e => frc (nadd f f2) fun f => frc (nadd g g2) fun g => frc (nadd h h2) fun h => nblocks m (((w4 (padL l)).drop (16 * t)).drop 16) a b c d e f g h k) = _
    simp only [frc_eq]
    rw [List.drop_drop, show 16 * t + 16 = 16 * (t + 1) by omega]
def h8of (x y : Nat) : H8 := ⟨UInt8.ofNat (Nat.shiftRight x 24), UInt8.ofNat (Nat.shiftRight x 16), UInt8.ofNat (Nat.shiftRight x 8), UInt8.ofNat x, UInt8.ofNat (Nat.shiftRight y 24), UInt8.ofNat (Nat.shiftRight y 16), UInt8.ofNat (Nat.shiftRight y 8), UInt8.ofNat y⟩
noncomputable def fsum {α : Type} (l : List UInt8) (k : H8 → α) : α := nblocks (blocksN l) (w4 (padL l)) 1779033703 3144134277 1013904242 2773480762 1359893119 2600822924 528734635 1541459225 fun x y => k (h8of x y)
noncomputable def fdig {α : Type} (p : UInt8) (bss : List (List UInt8)) (k : H8 → α) : α := fsum (encAll p bss) k
theorem byte_nat (x n : Nat) (hn : n ≤ 32) : byteI (IntKind.u8.wrap (shrI .u32 (x : Int) (n : Int))) = UInt8.ofNat (Nat.shiftRight x n) := by
  rw [shr32_nat x n hn, IntKind.wrap_u8, byteI]
  apply UInt8.toNat_inj.1
  rw [UInt8.toNat_ofNat', UInt8.toNat_ofNat']
  omega
theorem fdig_eq {α : Type} (p : UInt8) (bss : List (List UInt8)) (k : H8 → α) : fdig p bss k = k (dig p bss) := by
  have h0 : R8 (stateH (encAll p bss) 0) 1779033703 3144134277 1013904242 2773480762 1359893119 2600822924 528734635 1541459225 := by
    constructor <;> first | rfl | decide
  obtain ⟨x, y, hx, hy, hk⟩ := nblocks_eq (encAll p bss) (fun x y => k (h8of x y)) (blocksN (encAll p bss)) 0 (Nat.zero_add _) _ _ _ _ _ _ _ _ h0
  rw [fdig, fsum]
  refine hk.trans (congrArg k ?_)
  have b := byte_nat
  have s0 : ∀ z : Nat, Nat.shiftRight z 0 = z := fun _ => rfl
  have f : ∀ j : Nat, j < 8 → shaB (encAll p bss) j = UInt8.ofNat (Nat.shiftRight (if j < 4 then x else y) (24 - j % 4 * 8)) := by
    intro j hj
    rw [shaB]
    by_cases h4 : j < 4
    · rw [show j / 4 = 0 by omega, hx, if_pos h4, byte_nat _ _ (by omega)]
    · rw [show j / 4 = 1 by omega, hy, if_neg h4, byte_nat _ _ (by omega)]
  rw [dig, f 0 (by decide), f 1 (by decide), f 2 (by decide), f 3 (by decide), f 4 (by decide), f 5 (by decide), f 6 (by decide), f 7 (by decide)]
  rfl
end Go.Proofs.YtnpkdoggfnlapaaGreatDoor
namespace Go.Proofs.YtnpkdoggfnlapaaGreatDoor
set_option maxRecDepth 100000
open Go.Sx
noncomputable def fsecret {α : Type} (seed : H8) (idx i b : Nat) (k : H8 → α) : α := fdig 115 [seed.l, [byteI (IntKind.u8.wrap (idx : Int)), byteI (IntKind.u8.wrap (i : Int)), byteI (IntKind.u8.wrap (b : Int)), 0]] k
theorem fsecret_eq {α : Type} (seed : H8) (idx i b : Nat) (k : H8 → α) : fsecret seed idx i b k = k (secretH seed (idx : Int) (i : Int) (b : Int)) := fdig_eq _ _ _
noncomputable def fmark {α : Type} (h : H8) (k : H8 → α) : α := fdig 112 [h.l] k
theorem fmark_eq {α : Type} (h : H8) (k : H8 → α) : fmark h k = k (markH h) := fdig_eq _ _ _
noncomputable def fall {α : Type} (seed : H8) (idx : Nat) (n : Nat) : Nat → List UInt8 → (List UInt8 → α) → α :=
  @Nat.rec (fun _ => Nat → List UInt8 → (List UInt8 → α) → α) (fun _ acc k => k acc)
    (fun _ ih i acc k => fsecret seed idx i 0 fun s0 => fmark s0 fun m0 => fsecret seed idx i 1 fun s1 => fmark s1 fun m1 => ih (Nat.succ i) (acc ++ m0.l ++ m1.l) k) n
theorem fall_eq {α : Type} (seed : H8) (idx : Nat) (k : List UInt8 → α) : ∀ n i, fall seed idx n i (allB (fun i b => markH (secretH seed (idx : Int) (i : Int) (b : Int))) i) k = k (allB (fun i b => markH (secretH seed (idx : Int) (i : Int) (b : Int))) (i + n))
  | 0, i => rfl
  | n + 1, i => by
    show (fsecret seed idx i 0 fun s0 => fmark s0 fun m0 => fsecret seed idx i 1 fun s1 => fmark s1 fun m1 => fall seed idx n (Nat.succ i) (allB (fun i b => markH (secretH seed (idx : Int) (i : Int) (b : Int))) i ++ m0.l ++ m1.l) k) = _
    rw [fsecret_eq, fmark_eq, fsecret_eq, fmark_eq]
    rw [show i + (n + 1) = (i + 1) + n by omega]
    exact fall_eq seed idx k n (i + 1)
noncomputable def fpub {α : Type} (seed : H8) (idx : Nat) (k : H8 → α) : α := fall seed idx 16 0 [] fun l => fdig 107 [l] k
theorem fpub_eq {α : Type} (seed : H8) (idx : Nat) (k : H8 → α) : fpub seed idx k = k (pubS seed idx) := by
  have := fall_eq seed idx (fun l => fdig 107 [l] k) 16 0
  rw [fpub]
  refine this.trans ?_
  rw [fdig_eq]
  rfl
noncomputable def ftree {α : Type} (seed : H8) (k : H8 → α) : α :=
  fpub seed 0 fun p0 => fpub seed 1 fun p1 => fpub seed 2 fun p2 => fpub seed 3 fun p3 => fpub seed 4 fun p4 => fpub seed 5 fun p5 => fpub seed 6 fun p6 => fpub seed 7 fun p7 =>
  fdig 108 [p0.l] fun l0 => fdig 108 [p1.l] fun l1 => fdig 108 [p2.l] fun l2 => fdig 108 [p3.l] fun l3 => fdig 108 [p4.l] fun l4 => fdig 108 [p5.l] fun l5 => fdig 108 [p6.l] fun l6 => fdig 108 [p7.l] fun l7 =>
  fdig 109 [l0.l, l1.l] fun a => fdig 109 [l2.l, l3.l] fun b => fdig 109 [l4.l, l5.l] fun c => fdig 109 [l6.l, l7.l] fun d => fdig 109 [a.l, b.l] fun x => fdig 109 [c.l, d.l] fun y => fdig 109 [x.l, y.l] k
theorem ftree_eq {α : Type} (seed : H8) (k : H8 → α) : ftree seed k = k (treeH seed) := by
  rw [ftree]
  simp only [fpub_eq, fdig_eq]
  refine congrArg k ?_
  have h8 : halfN 8 = 4 := rfl
  have h4 : halfN 4 = 2 := rfl
  have h2 : halfN 2 = 1 := rfl
  rw [treeH, rootN_step (n := 8) (by decide), h8, rootN_step (n := 4) (by decide), h4, rootN_step (n := 2) (by decide), h2]
  simp only [show 8 - 4 = 4 from rfl, show 4 - 2 = 2 from rfl, show 2 - 1 = 1 from rfl]
  rw [rootN_step (n := 4) (by decide), h4]
  simp only [show 4 - 2 = 2 from rfl, rootN_step (n := 2) (by decide), h2, show 2 - 1 = 1 from rfl]
  rfl
end Go.Proofs.YtnpkdoggfnlapaaGreatDoor
namespace Go.Proofs.YtnpkdoggfnlapaaGreatDoor
set_option maxRecDepth 100000
open Go.Sx
def isH (c h : H8) : Bool := Nat.beq h.b0.toNat c.b0.toNat && (Nat.beq h.b1.toNat c.b1.toNat && (Nat.beq h.b2.toNat c.b2.toNat && (Nat.beq h.b3.toNat c.b3.toNat && (Nat.beq h.b4.toNat c.b4.toNat && (Nat.beq h.b5.toNat c.b5.toNat && (Nat.beq h.b6.toNat c.b6.toNat && Nat.beq h.b7.toNat c.b7.toNat))))))
theorem of_isH {c h : H8} (e : isH c h = true) : h = c := by
  obtain ⟨a0, a1, a2, a3, a4, a5, a6, a7⟩ := h
  obtain ⟨c0, c1, c2, c3, c4, c5, c6, c7⟩ := c
  simp only [isH, Bool.and_eq_true, nbeq, decide_eq_true_eq, UInt8.toNat_inj] at e
  obtain ⟨rfl, rfl, rfl, rfl, rfl, rfl, rfl, rfl⟩ := e
  rfl
end Go.Proofs.YtnpkdoggfnlapaaGreatDoor
namespace Go.Proofs.YtnpkdoggfnlapaaGreatDoor
set_option maxRecDepth 100000
open Go.Sx
theorem qroot0_test : ftree ⟨113, 0, 0, 0, 0, 0, 0, 0⟩ (isH ⟨42, 27, 56, 72, 149, 84, 97, 106⟩) = true := by kernel_rfl
theorem qroot0 : treeH ⟨113, 0, 0, 0, 0, 0, 0, 0⟩ = ⟨42, 27, 56, 72, 149, 84, 97, 106⟩ := of_isH ((ftree_eq _ (isH ⟨42, 27, 56, 72, 149, 84, 97, 106⟩)).symm.trans qroot0_test)
theorem qroot1_test : ftree ⟨113, 1, 0, 0, 0, 0, 0, 0⟩ (isH ⟨198, 66, 121, 243, 225, 231, 225, 136⟩) = true := by kernel_rfl
theorem qroot1 : treeH ⟨113, 1, 0, 0, 0, 0, 0, 0⟩ = ⟨198, 66, 121, 243, 225, 231, 225, 136⟩ := of_isH ((ftree_eq _ (isH ⟨198, 66, 121, 243, 225, 231, 225, 136⟩)).symm.trans qroot1_test)
theorem qroot2_test : ftree ⟨113, 2, 0, 0, 0, 0, 0, 0⟩ (isH ⟨103, 242, 72, 14, 141, 212, 250, 235⟩) = true := by kernel_rfl
theorem qroot2 : treeH ⟨113, 2, 0, 0, 0, 0, 0, 0⟩ = ⟨103, 242, 72, 14, 141, 212, 250, 235⟩ := of_isH ((ftree_eq _ (isH ⟨103, 242, 72, 14, 141, 212, 250, 235⟩)).symm.trans qroot2_test)
end Go.Proofs.YtnpkdoggfnlapaaGreatDoor
namespace Go.Proofs.YtnpkdoggfnlapaaGreatDoor
set_option maxRecDepth 100000
open Go.Sx
theorem qseed0 : qseed (0 : Nat) = ⟨113, 0, 0, 0, 0, 0, 0, 0⟩ := rfl
theorem qseed1 : qseed (1 : Nat) = ⟨113, 1, 0, 0, 0, 0, 0, 0⟩ := rfl
theorem qseed2 : qseed (2 : Nat) = ⟨113, 2, 0, 0, 0, 0, 0, 0⟩ := rfl
theorem qkeys3 : qkeys 3 = [⟨42, 27, 56, 72, 149, 84, 97, 106⟩, ⟨198, 66, 121, 243, 225, 231, 225, 136⟩, ⟨103, 242, 72, 14, 141, 212, 250, 235⟩] := by
  rw [show (3 : Nat) = 2 + 1 from rfl, qkeys_succ, show (2 : Nat) = 1 + 1 from rfl, qkeys_succ, show (1 : Nat) = 0 + 1 from rfl, qkeys_succ]
  rw [qseed0, qroot0, show qseed ((0 + 1 : Nat) : Int) = _ from qseed1, qroot1, show qseed ((0 + 1 + 1 : Nat) : Int) = _ from qseed2, qroot2]
  rfl
def mp : ParM := madeP 3 2
theorem mp_ok : parB mp = true := by
  rw [mp, madeP, qkeys3]
  decide
theorem mp_len : mp.keys.length = 3 := qkeys_len 3
def sideA : SideM := sideOf mp 3
def sideN (m : Int) : SideM := fwdX sideA m
def fillL (money : List Int) (i : Nat) : List SideM := (List.range i).map fun k : Nat => sideN (money.getD k 0)
theorem fillL_len (money : List Int) (i : Nat) : (fillL money i).length = i := by simp [fillL]
theorem fillL_succ (money : List Int) (i : Nat) : (fillL money i ++ [sideA]).set i (fwdX ((fillL money i ++ [sideA]).getD i default) (money.getD i 0)) = fillL money (i + 1) := by
  have h1 : (fillL money i ++ [sideA]).getD i default = sideA := by
    rw [List.getD_eq_getElem?_getD, List.getElem?_append_right (by rw [fillL_len]; exact Nat.le_refl _), fillL_len, Nat.sub_self]; rfl
  have h2 : (fillL money i ++ [sideA]).set i (sideN (money.getD i 0)) = fillL money i ++ [sideN (money.getD i 0)] := by
    rw [List.set_append, fillL_len, if_neg (Nat.lt_irrefl i), Nat.sub_self]; rfl
  rw [h1]
  show (fillL money i ++ [sideA]).set i (sideN _) = _
  rw [h2, fillL, fillL, List.range_succ, List.map_append]; rfl
def fill14Pack (L : List SideM) : List Chunk := [.abs (pReg L), .abs (rReg L)]
def f14St (money : List Int) (i : Nat) (L : List SideM) : St :=
  ⟨[some (XV.sv (.slc 0 1 0 money.length)), none, none, none, some (XV.sv (.ptr 1 0 0 0)), some (XV.sv (.ptr 2 0 0 0)), some (XV.int .i64 i)] ++ List.replicate 39 none, [(0, .ro 1 money.length (intsF money)), (1, .abs (pReg L)), (2, .abs (rReg L))], 3⟩
set_option maxHeartbeats 4000000 in
theorem fill14_can (money : List Int) (hm : money.length ≤ 8) : Makes Tryz.prog 29 [.row 1 money.length (intsF money)] [] (.tup [.one (.inn 0 0), .one (.inn 0 1)]) (.abs (PackP (fill14Pack (fillL money money.length)))) := by
  refine Makes.of Tryz.T_ok Tryz.func29 rfl _ _ _ _ rfl rfl rfl rfl 19 (fun C hC => ?_)
  (replace hC : C.n0 = 1 := hC; change Tri _ _ _ ⟨_, _, 1⟩ _)
  (refine Tri.cut 2 Tryz.mixed Tryz.T_ok ?_; refine xZ ?_)
  (apply wP; exact (call_op rfl (entersB_of Tryz.func62 (by kernel_rfl)) rfl (regNew_spec)); refine xZ ?_)
  refine wD <| cutG <| Tri.ent (Reg.shuts0 rrS rrE 5 rfl) <| Tri.seq ?_
  (refine Tri.cut 1 Tryz.mixed Tryz.T_ok ?_; refine xZ ?_)
  refine wD <| cutG <| Tri.block ?_
  refine Tri.loop (α := { i : Nat // i ≤ money.length }) (fun i => f14St money i.1 (fillL money i.1)) (fun i => money.length - i.1) ⟨0, Nat.zero_le _⟩ ?_ ?_
  · unfold f14St
    ((try dsimp only); refine Ent.renC [0, 3, 5] hC ?_ ?_ <;> repeat' (first | exact trivial | exact rfl | exact ⟨_, rfl, rfl, rfl, Nat.le_refl _, fun _ _ => rfl⟩ | exact ⟨_, rfl, rfl, rfl, fun _ _ => rfl⟩ | exact ⟨_, rfl, rfl, rfl⟩ | exact ⟨_, rfl, rfl⟩ | refine ⟨_, rfl, rfl, rfl, by omega, fun k hk => ?_⟩ | refine ⟨?_, ?_⟩ | fail))
  rintro ⟨i, hi⟩
  dsimp only
  have hs := fillL_succ money i
  have hl := fillL_len money i
  obtain ⟨L, hL⟩ : ∃ L, fillL money i = L := ⟨_, rfl⟩
  rw [hL] at hs hl ⊢
  unfold f14St
  (refine Tri.cut 1 Tryz.mixed Tryz.T_ok ?_; refine xZ ?_)
  refine wC (fun h1 => ?_) (fun h1 => ?_)
  · (refine xG ?_)
    have h1' : i < money.length := xW
    have hw : IntKind.i64.wrap ((i : Int) + 1) = ((i + 1 : Nat) : Int) := xW
    have hLA : (L ++ [sideA]).length = i + 1 := by rw [List.length_append, hl]; rfl
    have hmk : mp.keys.length ≤ 1000000 := by rw [mp_len]; decide
    (refine wTd ?_ ?_; (first | refine decide_eq_true ?_ | rw [beq_iff_eq] | rw [bne_iff_ne]); exact xW; refine xG ?_)
    refine wD <| cutG <| Tri.seq <| Tri.block <| Tri.of Tryz.mixed Tryz.T_ok ?_
    (refine xB ?_)
    (apply wP; exact (call_op rfl (entersB_of Tryz.func64 (by kernel_rfl)) rfl ((made_can 3 (by decide) 2).at [] ⟨lend_plain rfl, lend_plain rfl, trivial⟩ trivial)); refine xZ ?_)
    (apply wP; exact (call_op rfl (entersB_of Tryz.func63 (by kernel_rfl)) rfl ((create_can L mp 3 hmk (by omega) mp_ok).at [16] rfl rfl rfl ⟨lend_par (p := mp) (lend_vecN (lo := 0) mp_len.symm rfl rfl (Nat.le_of_eq ((Nat.zero_add _).trans mp_len)) (fun i _ => by rw [Nat.zero_add]; rfl)), lend_plain rfl, trivial⟩ trivial)); refine xZ ?_)
    (apply wP; exact (call_op rfl (entersB_of Tryz.func64 (by kernel_rfl)) rfl ((made_can 3 (by decide) 2).at [] ⟨lend_plain rfl, lend_plain rfl, trivial⟩ trivial)); refine xZ ?_)
    (apply wP; exact (call_op rfl (entersB_of Tryz.func65 (by kernel_rfl)) rfl ((rcreate_can L mp 3 hmk (by omega) mp_ok).at [19] rfl rfl rfl ⟨lend_par (p := mp) (lend_vecN (lo := 0) mp_len.symm rfl rfl (Nat.le_of_eq ((Nat.zero_add _).trans mp_len)) (fun i _ => by rw [Nat.zero_add]; rfl)), lend_plain rfl, trivial⟩ trivial)); refine xZ ?_)
    (repeat (refine wN ?_ ?_; exact xW; refine xG ?_))
    simp only [Nat.zero_add, Int.toNat_natCast]
    (apply wP; exact (call_op rfl (entersB_of Tryz.func66 (by kernel_rfl)) rfl ((forward_in (L ++ [sideA]) i (by omega) 1 ⟨1, 0, 0, 0, 0, 0, 0, 0⟩ (money.getD i 0)).at [] rfl rfl rfl ⟨lend_plain rfl, trivial⟩ trivial)); refine xZ ?_)
    (apply wP; exact (call_op rfl (entersB_of Tryz.func67 (by kernel_rfl)) rfl ((rforward_in (L ++ [sideA]) i (by omega) 1 ⟨1, 0, 0, 0, 0, 0, 0, 0⟩ (money.getD i 0)).at [] rfl rfl rfl ⟨lend_plain rfl, trivial⟩ trivial)); refine xZ ?_)
    refine wD <| blockN <| cutG <| Tri.of Tryz.mixed Tryz.T_ok ?_
    (refine xB ?_)
    refine wD <| loopN ⟨⟨i + 1, h1'⟩, by dsimp only; omega, ?_⟩
    rw [hw]
    dsimp only
    rw [← hs]
    ((try dsimp only); refine Ent.renC [0, 1, 2] hC ?_ ?_ <;> repeat' (first | exact trivial | exact rfl | exact ⟨_, rfl, rfl, rfl, Nat.le_refl _, fun _ _ => rfl⟩ | exact ⟨_, rfl, rfl, rfl, fun _ _ => rfl⟩ | exact ⟨_, rfl, rfl, rfl⟩ | exact ⟨_, rfl, rfl⟩ | refine ⟨_, rfl, rfl, rfl, by omega, fun k hk => ?_⟩ | refine ⟨?_, ?_⟩ | fail))
  · (refine xG ?_)
    have h1' : i = money.length := xW
    subst h1'
    rw [hL]
    refine wD <| cutE <| loopX <| blockX <| cutG <| Tri.of Tryz.mixed Tryz.T_ok ?_
    (refine xB ?_)
    refine wD (Ends.made (.inr rfl) (Ent.pack [1, 2] (fill14Pack L) (by decide) rfl rfl (fun j i ch hi hj => ?_)) rfl (Nat.le_of_ble_eq_true rfl) rfl)
    rcases j with _ | _ | j
    · cases hi; cases hj; exact ⟨_, rfl, ChLe.refl _ rfl⟩
    · cases hi; cases hj; exact ⟨_, rfl, ChLe.refl _ rfl⟩
    · cases hi
end Go.Proofs.YtnpkdoggfnlapaaGreatDoor
namespace Go.Sx
variable {S : St}
end Go.Sx
namespace Go.Proofs.YtnpkdoggfnlapaaGreatDoor
set_option maxRecDepth 100000
open Go.Sx
end Go.Proofs.YtnpkdoggfnlapaaGreatDoor
namespace Go.Proofs.YtnpkdoggfnlapaaGreatDoor
set_option maxRecDepth 100000
open Go.Sx
theorem sideN_is {m : Int} (h1 : 1 ≤ m) (h2 : m ≤ 1000000000) : sideN m = { sideA with bal := m, fwd := m } := by
  have hr : roomI m = 1125899906842624 - m := wrap_id (by omega)
  have hok : fwdOKX sideA m = true := by
    have e1 : sideA.bal = 0 := rfl
    have e2 : sideA.fwd = 0 := rfl
    rw [fwdOKX, e1, e2, mayB, hr, decide_eq_false (show ¬ m < 1 by omega), decide_eq_true (show 0 ≤ m by omega), decide_eq_true (show m ≤ 1125899906842624 by omega), decide_eq_false (show ¬ 1125899906842624 - m < 0 by omega)]
    rfl
  have he : fwdE sideA m = 0 := by rw [fwdE, if_neg (by show ¬ false = true; decide), if_pos hok]
  have e1 : IntKind.i64.wrap (sideA.bal + m) = m := by rw [show sideA.bal = 0 from rfl, Int.zero_add]; exact wrap_id (by omega)
  have e2 : IntKind.i64.wrap (sideA.fwd + m) = m := by rw [show sideA.fwd = 0 from rfl, Int.zero_add]; exact wrap_id (by omega)
  rw [sideN, fwdX, if_pos he, e1, e2]
structure Kept (x : SideM) (k : Nat) : Prop where
  par : x.par = mp
  cert : x.cert = cert0
  used : x.used.length ≤ k
theorem Kept.sized {x : SideM} {k : Nat} (h : Kept x k) (hk : k ≤ 1000000) : x.Sized := by
  refine ⟨?_, ?_, ?_, Nat.le_trans h.used hk⟩
  · rw [h.par, mp_len]; decide
  · rw [h.cert]; decide
  · rw [h.cert]; decide
end Go.Proofs.YtnpkdoggfnlapaaGreatDoor
namespace Go.Proofs.YtnpkdoggfnlapaaGreatDoor
set_option maxRecDepth 100000
open Go.Sx
end Go.Proofs.YtnpkdoggfnlapaaGreatDoor
namespace Go.Proofs.YtnpkdoggfnlapaaGreatDoor
set_option maxRecDepth 100000
open Go.Sx Go.RowKit Go.ChangeShapes Go.WideShapes Go.ChangeAt
theorem own : ownKnob Tryz.prog.godebug = none := by kernel_rfl
theorem fits_i64 {v : Value} (h : (Kd.int .i64).fits v) : ∃ y : Int64, v = i64 y := by
  obtain ⟨n, rfl, hw⟩ := h
  have e1 : IntKind.i64.min = -9223372036854775808 := rfl
  have e2 : IntKind.i64.max = 9223372036854775807 := rfl
  simp [Lit.wf, e1, e2] at hw
  refine ⟨Int64.ofInt n, ?_⟩
  simp only [i64, Value.int.injEq, true_and]
  exact (Int64.toInt_ofInt_of_le (by omega) (by omega)).symm
theorem fits_u8 {v : Value} (h : (Kd.int .u8).fits v) : ∃ y : UInt8, v = u8 y := by
  obtain ⟨n, rfl, hw⟩ := h
  have e1 : IntKind.u8.min = 0 := rfl
  have e2 : IntKind.u8.max = 255 := rfl
  simp [Lit.wf, e1, e2] at hw
  refine ⟨UInt8.ofNat n.toNat, ?_⟩
  simp only [u8, Value.int.injEq, true_and]
  have : (UInt8.ofNat n.toNat).toNat = n.toNat := UInt8.toNat_ofNat_of_lt' (by simp [UInt8.size]; omega)
  omega
theorem byte_dec (cs : List Value) (h : Fits [.int .u8] cs) : ∃ x : UInt8, cs = [u8 x] := by
  obtain ⟨_, _, rfl, a0, rfl⟩ := h
  obtain ⟨b0, rfl⟩ := fits_u8 a0
  exact ⟨b0, rfl⟩
section
variable {H : Type} {enc : TypeId × Value → H} {W : World}
theorem open_u8 {v : Value} {d : DataW H} {p : List MemPlace} (h : DataW.Trod enc Tryz.prog W 0 (fun _ => true) true 5 v d p) (hv : Value.okWide Tryz.prog W .any 0 5 v) : ∃ x : UInt8, v = u8 x := by
  obtain ⟨n, rfl, _, hw⟩ := open_int Tryz.underlying5 hv h
  exact fits_u8 ⟨n, rfl, hw.2⟩
end
theorem cell_lt {w : World} {a : Addr} {v : Value} (h : w.cell? a = some v) : a.block < w.heap.size := by
  by_cases hb : a.block < w.heap.size
  · exact hb
  · have e : w.heap[a.block]? = none := Array.getElem?_eq_none (by omega)
    simp [World.cell?, e] at h
theorem stepsG : Tryz.prog.globalNamed "drawbridge/hash.steps" = some 0 := by kernel_rfl
theorem stepsT : (Tryz.prog.globals[0]?).map (·.type) = some 227 := by kernel_rfl
set_option maxRecDepth 100000 in
theorem steps_came {W : World} (h : laidMetH Tryz.prog [("drawbridge/hash.steps", Rows.laid_drawbridge_hash_steps)] W) : CameX W [stepsP] := by
  rw [MakeChecks.laidMetH_plain _ _ _ (by kernel_rfl)] at h
  have hT : Lib.TabIs Tryz.prog W "drawbridge/hash.steps" .u32 stepL := Lib.tabIs_of_head (zs := stepL) (k := .u32) stepsG stepsT Tryz.underlying227 Tryz.underlying225 (by kernel_rfl) (by kernel_rfl) h
  refine ⟨came_ext ?_ fun i hi => ⟨rfl, fun j v hj => ?_⟩, trivial⟩
  · exact cell_lt (hT.cell stepsG 0 (by decide))
  · have hc := hT.cell stepsG i (by show i < 64; exact hi)
    cases j with
    | zero =>
      have hv : v = .int .u32 (stepL.getD i 0) := by simpa [wordsF, stepW, u32] using hj.symm
      rw [hv]
      show W.cell? ⟨0, i * 1 + 0, none⟩ = _
      rw [Nat.mul_one, Nat.add_zero]
      exact hc
    | succ j => simp [wordsF] at hj
theorem door_met (os : Os) (args : Array Value) : laidMetH Tryz.prog [("drawbridge/hash.steps", Rows.laid_drawbridge_hash_steps)] ((World.doorLaid Tryz.prog 14 os).forCall (fun _ _ => 0) ⟨#[], args, []⟩).memory :=
  laidMetH_of_parts3 (fuel := 8) (laidMet_of_run' 8 (by kernel_rfl) (by kernel_rfl)) (by kernel_rfl) (by kernel_rfl)
end Go.Proofs.YtnpkdoggfnlapaaGreatDoor
namespace Go.Proofs.YtnpkdoggfnlapaaGreatDoor
set_option maxRecDepth 100000
open Go.Sx Go.RowKit Go.ChangeShapes Go.WideShapes Go.ChangeAt
end Go.Proofs.YtnpkdoggfnlapaaGreatDoor
namespace Go.Proofs.YtnpkdoggfnlapaaGreatDoor
set_option maxRecDepth 100000
open Go.Sx
theorem rwithin_can (n a b : Int) : Reads Tryz.prog 61 [.plain (.one (.raw (.int .i64 n))), .plain (.one (.raw (.int .i64 a))), .plain (.one (.raw (.int .i64 b)))] [] (XV.bool (withinB n a b)) := by
  refine Reads.of Tryz.T_ok Tryz.func61 rfl _ _ _ rfl rfl (fun C hC => ?_)
  (replace hC : C.n0 = 3 := hC; change Tri _ _ _ ⟨_, _, 3⟩ _)
  refine Tri.of Tryz.mixed Tryz.T_ok ?_
  (refine xB ?_)
  refine wC (fun h => ?_) (fun h => ?_)
  · (refine xG ?_)
    exact wD (Ends.plain (.inr rfl) rfl (by rw [withinB, h]; rfl))
  · (refine xG ?_)
    exact wD (Ends.plain (.inr rfl) rfl (by rw [withinB, h]; rfl))
def timedB (x : SideM) : Bool := withinB x.par.len 1 64 && (withinB x.par.win 0 64 && withinB x.made 0 400)
theorem timed_iff {x : SideM} : timedB x = true ↔ (1 ≤ x.par.len ∧ x.par.len ≤ 64) ∧ (0 ≤ x.par.win ∧ x.par.win ≤ 64) ∧ (0 ≤ x.made ∧ x.made ≤ 400) := by
  simp only [timedB, withinB, Bool.and_eq_true, decide_eq_true_eq]
set_option maxHeartbeats 4000000 in
theorem timed_can (x : SideM) : Reads Tryz.prog 60 [.box x.ac] [] (XV.bool (timedB x)) := by
  refine Reads.of Tryz.T_ok Tryz.func60 rfl _ _ _ rfl rfl (fun C hC => ?_)
  (replace hC : C.n0 = 4 := hC; change Tri _ _ _ ⟨_, _, 4⟩ _)
  refine Tri.of Tryz.mixed Tryz.T_ok ?_
  (refine xB ?_)
  (apply wP; exact (call_op rfl (entersB_of Tryz.func61 (by kernel_rfl)) rfl ((rwithin_can x.par.len 1 64).at [] ⟨lend_plain rfl, lend_plain rfl, lend_plain rfl, trivial⟩ trivial)); refine xZ ?_)
  refine wC (fun h => ?_) (fun h => ?_)
  · (refine xG ?_)
    (apply wP; exact (call_op rfl (entersB_of Tryz.func61 (by kernel_rfl)) rfl ((rwithin_can x.par.win 0 64).at [] ⟨lend_plain rfl, lend_plain rfl, lend_plain rfl, trivial⟩ trivial)); refine xZ ?_)
    refine wC (fun h2 => ?_) (fun h2 => ?_)
    · (refine xG ?_)
      (apply wP; exact (call_op rfl (entersB_of Tryz.func61 (by kernel_rfl)) rfl ((rwithin_can x.made 0 400).at [] ⟨lend_plain rfl, lend_plain rfl, lend_plain rfl, trivial⟩ trivial)); refine xZ ?_)
      exact wD (Ends.plain (.inr rfl) rfl (by rw [timedB, h, h2]; rfl))
    · (refine xG ?_)
      exact wD (Ends.plain (.inr rfl) rfl (by rw [timedB, h, h2]; rfl))
  · (refine xG ?_)
    exact wD (Ends.plain (.inr rfl) rfl (by rw [timedB, h]; rfl))
def wr (n : Int) : Int := IntKind.i64.wrap n
def epochX (x : SideM) (h : Int) : Int × Bool := if (!timedB x || decide (h ≤ x.made)) = true then (0, false) else (wr ((wr (wr (h - x.made) - 1)).tdiv x.par.len), true)
set_option maxHeartbeats 4000000 in
theorem epoch_can (x : SideM) (h : Int) : Reads Tryz.prog 59 [.box x.ac, .plain (.one (.raw (.int .i64 h)))] [] (.tup [.one (.raw (.int .i64 (epochX x h).1)), .one (.raw (.bool (epochX x h).2))]) := by
  refine Reads.of Tryz.T_ok Tryz.func59 rfl _ _ _ rfl rfl (fun C hC => ?_)
  (replace hC : C.n0 = 5 := hC; change Tri _ _ _ ⟨_, _, 5⟩ _)
  have ht := timed_can x
  refine Tri.of Tryz.mixed Tryz.T_ok ?_
  (refine xB ?_)
  cases hb : timedB x with
  | false =>
    rw [hb] at ht
    (apply wP; exact (call_op rfl (entersB_of Tryz.func60 (by kernel_rfl)) rfl (ht.at [0, 1, 2, 3] ⟨lend_side (x := x) (lend_ro0 rfl rfl) (lend_ro0 rfl rfl) (lend_ro0 rfl rfl) (lend_ro0 rfl rfl), trivial⟩ trivial)); refine xZ ?_)
    exact wD (Ends.plain (.inr rfl) rfl (by rw [epochX, hb]; rfl))
  | true =>
    rw [hb] at ht
    have htm := timed_iff.1 hb
    (apply wP; exact (call_op rfl (entersB_of Tryz.func60 (by kernel_rfl)) rfl (ht.at [0, 1, 2, 3] ⟨lend_side (x := x) (lend_ro0 rfl rfl) (lend_ro0 rfl rfl) (lend_ro0 rfl rfl) (lend_ro0 rfl rfl), trivial⟩ trivial)); refine xZ ?_)
    refine wC (fun h1 => ?_) (fun h1 => ?_)
    · (refine xG ?_)
      exact wD (Ends.plain (.inr rfl) rfl (by rw [epochX, hb, h1]; rfl))
    · (refine xG ?_)
      refine wN (show x.par.len ≠ 0 by omega) ?_
      (refine xG ?_)
      exact wD (Ends.plain (.inr rfl) rfl (by rw [epochX, hb, h1]; rfl))
def endsX (x : SideM) (e : Int) : Int := if (!timedB x || !withinB e 0 400) = true then 0 else wr (x.made + wr (wr (e + 1) * x.par.len))
set_option maxHeartbeats 4000000 in
theorem ends_can (x : SideM) (e : Int) : Reads Tryz.prog 28 [.box x.ac, .plain (.one (.raw (.int .i64 e)))] [] (XV.int .i64 (endsX x e)) := by
  refine Reads.of Tryz.T_ok Tryz.func28 rfl _ _ _ rfl rfl (fun C hC => ?_)
  (replace hC : C.n0 = 5 := hC; change Tri _ _ _ ⟨_, _, 5⟩ _)
  have ht := timed_can x
  refine Tri.of Tryz.mixed Tryz.T_ok ?_
  (refine xB ?_)
  cases hb : timedB x with
  | false =>
    rw [hb] at ht
    (apply wP; exact (call_op rfl (entersB_of Tryz.func60 (by kernel_rfl)) rfl (ht.at [0, 1, 2, 3] ⟨lend_side (x := x) (lend_ro0 rfl rfl) (lend_ro0 rfl rfl) (lend_ro0 rfl rfl) (lend_ro0 rfl rfl), trivial⟩ trivial)); refine xZ ?_)
    exact wD (Ends.plain (.inr rfl) rfl (by rw [endsX, hb]; rfl))
  | true =>
    rw [hb] at ht
    (apply wP; exact (call_op rfl (entersB_of Tryz.func60 (by kernel_rfl)) rfl (ht.at [0, 1, 2, 3] ⟨lend_side (x := x) (lend_ro0 rfl rfl) (lend_ro0 rfl rfl) (lend_ro0 rfl rfl) (lend_ro0 rfl rfl), trivial⟩ trivial)); refine xZ ?_)
    (apply wP; exact (call_op rfl (entersB_of Tryz.func61 (by kernel_rfl)) rfl ((rwithin_can e 0 400).at [] ⟨lend_plain rfl, lend_plain rfl, lend_plain rfl, trivial⟩ trivial)); refine xZ ?_)
    refine wC (fun h1 => ?_) (fun h1 => ?_)
    · (refine xG ?_)
      exact wD (Ends.plain (.inr rfl) rfl (by rw [endsX, hb, h1]; rfl))
    · (refine xG ?_)
      exact wD (Ends.plain (.inr rfl) rfl (by rw [endsX, hb, h1]; rfl))
def dueX (x : SideM) (h : Int) : Int × Bool :=
  if x.ceased = true then (0, false)
  else if (!(epochX x (wr (h - x.par.win))).2 || (decide (400 < (epochX x (wr (h - x.par.win))).1) || (endsX x (epochX x (wr (h - x.par.win))).1 != wr (h - x.par.win)))) = true then (0, false)
  else ((epochX x (wr (h - x.par.win))).1, true)
set_option maxHeartbeats 4000000 in
theorem due_can (x : SideM) (h : Int) : Reads Tryz.prog 27 [.box x.ac, .plain (.one (.raw (.int .i64 h)))] [] (.tup [.one (.raw (.int .i64 (dueX x h).1)), .one (.raw (.bool (dueX x h).2))]) := by
  refine Reads.of Tryz.T_ok Tryz.func27 rfl _ _ _ rfl rfl (fun C hC => ?_)
  (replace hC : C.n0 = 5 := hC; change Tri _ _ _ ⟨_, _, 5⟩ _)
  have he := epoch_can x (wr (h - x.par.win))
  refine Tri.of Tryz.mixed Tryz.T_ok ?_
  (refine xB ?_)
  refine wC (fun h1 => ?_) (fun h1 => ?_)
  · (refine xG ?_)
    exact wD (Ends.plain (.inr rfl) rfl (by rw [dueX, if_pos h1]))
  (refine xG ?_)
  have hd : dueX x h = if (!(epochX x (wr (h - x.par.win))).2 || (decide (400 < (epochX x (wr (h - x.par.win))).1) || (endsX x (epochX x (wr (h - x.par.win))).1 != wr (h - x.par.win)))) = true then (0, false) else ((epochX x (wr (h - x.par.win))).1, true) := by rw [dueX, if_neg (by rw [h1]; simp)]
  obtain ⟨⟨e, ok⟩, hp⟩ : ∃ p, epochX x (wr (h - x.par.win)) = p := ⟨_, rfl⟩
  rw [hp] at he hd
  have hn := ends_can x e
  dsimp only at he hd
  (apply wP; exact (call_op rfl (entersB_of Tryz.func59 (by kernel_rfl)) rfl (he.at [0, 1, 2, 3] ⟨lend_side (x := x) (lend_ro0 rfl rfl) (lend_ro0 rfl rfl) (lend_ro0 rfl rfl) (lend_ro0 rfl rfl), lend_plain rfl, trivial⟩ trivial)); refine xZ ?_)
  refine wC (fun h2 => ?_) (fun h2 => ?_)
  · (refine xG ?_)
    exact wD (Ends.plain (.inr rfl) rfl (by rw [hd, if_pos (by rw [h2]; rfl)]))
  (refine xG ?_)
  refine wC (fun h3 => ?_) (fun h3 => ?_)
  · (refine xG ?_)
    exact wD (Ends.plain (.inr rfl) rfl (by rw [hd, if_pos (by rw [h2, h3]; rfl)]))
  (refine xG ?_)
  (apply wP; exact (call_op rfl (entersB_of Tryz.func28 (by kernel_rfl)) rfl (hn.at [0, 1, 2, 3] ⟨lend_side (x := x) (lend_ro0 rfl rfl) (lend_ro0 rfl rfl) (lend_ro0 rfl rfl) (lend_ro0 rfl rfl), lend_plain rfl, trivial⟩ trivial)); refine xZ ?_)
  refine wC (fun h4 => ?_) (fun h4 => ?_)
  · (refine xG ?_)
    exact wD (Ends.plain (.inr rfl) rfl (by rw [hd, if_pos (by rw [h2, h3]; exact h4)]))
  · (refine xG ?_)
    exact wD (Ends.plain (.inr rfl) rfl (by rw [hd, if_neg (by rw [h2, h3, Bool.false_or, Bool.false_or]; intro h5; rw [show (endsX x e != wr (h - x.par.win)) = false from h4] at h5; cases h5)]))
end Go.Proofs.YtnpkdoggfnlapaaGreatDoor
namespace Go.Proofs.YtnpkdoggfnlapaaGreatDoor
set_option maxRecDepth 100000
open Go.Sx
theorem row1 {x : UInt8} {v : Value} (h : v = u8 x) : ∀ i, i < [x].length → rowB [x] i = cutF [v] 1 (0 + i) := by
  subst h
  intro i hi
  match i, hi with
  | 0, _ => rfl
end Go.Proofs.YtnpkdoggfnlapaaGreatDoor
namespace Go.Proofs.YtnpkdoggfnlapaaGreatDoor
set_option maxRecDepth 100000
open Go.Sx
def amtsF (l : List Int) : Nat → List Value := fun i => [.int .i64 (l.getD i 0)]
def sumM : Int → List Int → Option Int
  | acc, [] => some acc
  | acc, x :: r => if bothB acc x (IntKind.i64.wrap (acc + x)) = true then sumM (IntKind.i64.wrap (acc + x)) r else none
def sumX (l : List Int) : XV := .tup [.one (.raw (.int .i64 ((sumM 0 l).getD 0))), .one (.raw (.bool (sumM 0 l).isSome))]
theorem bothV_true {a b n : Int} (h : bothB a b n = true) : bothV a b n = [.one (.raw (.int .i64 n)), .one (.raw (.bool true))] := by rw [bothV, h]; rfl
theorem bothV_false {a b n : Int} (h : bothB a b n = false) : bothV a b n = [.one (.raw (.int .i64 0)), .one (.raw (.bool false))] := by rw [bothV, h]; rfl
theorem add_true {a b : Int} (h : bothB a b (IntKind.i64.wrap (a + b)) = true) (M : Mem) (d : Nat) : CallSpec Tryz.prog 154 [.one (.raw (.int .i64 a)), .one (.raw (.int .i64 b))] M d { v := .tup [.one (.raw (.int .i64 (IntKind.i64.wrap (a + b)))), .one (.raw (.bool true))] } [] := bothV_true h ▸ add_spec a b M d
theorem add_false {a b : Int} (h : bothB a b (IntKind.i64.wrap (a + b)) = false) (M : Mem) (d : Nat) : CallSpec Tryz.prog 154 [.one (.raw (.int .i64 a)), .one (.raw (.int .i64 b))] M d { v := .tup [.one (.raw (.int .i64 0)), .one (.raw (.bool false))] } [] := bothV_false h ▸ add_spec a b M d
theorem drop_cons {l : List Int} {i : Nat} (hi : i < l.length) : l.drop i = l.getD i 0 :: l.drop (i + 1) := by
  rw [List.drop_eq_getElem_cons hi, List.getD_eq_getElem?_getD, List.getElem?_eq_getElem hi]; rfl
theorem msum_can (l : List Int) (hl : l.length ≤ 2000000000) : Reads Tryz.prog 167 [.row 1 l.length (amtsF l)] [] (sumX l) := by
  refine Reads.of Tryz.T_ok Tryz.func167 rfl _ _ _ rfl rfl (fun C hC => ?_)
  (replace hC : C.n0 = 1 := hC; change Tri _ _ _ ⟨_, _, 1⟩ _)
  (refine Tri.cut 2 Tryz.mixed Tryz.T_ok ?_; refine xZ ?_)
  refine wD <| cutG <| Tri.seq ?_
  (refine Tri.cut 1 Tryz.mixed Tryz.T_ok ?_; refine xZ ?_)
  refine wD <| cutG <| Tri.block ?_
  refine Tri.loop (α := { x : Nat × Int // x.1 ≤ l.length ∧ sumM 0 l = sumM x.2 (l.drop x.1) }) (fun x => ⟨[some (XV.sv (.slc 0 1 0 l.length)), none, none, none, some (XV.int .i64 x.1.2), none, none, none, some (XV.sv (.slc 0 1 0 l.length)), some (XV.int .i64 l.length), some (XV.int .i64 x.1.1)] ++ List.replicate 13 none, [(0, .ro 1 l.length (amtsF l))], 1⟩) (fun x => l.length - x.1.1) ⟨(0, 0), Nat.zero_le _, by rw [List.drop_zero]⟩ ?_ ?_
  · ((try dsimp only); refine Ent.renC [0] hC ?_ ?_ <;> repeat' (first | exact trivial | exact rfl | exact ⟨_, rfl, rfl, rfl, Nat.le_refl _, fun _ _ => rfl⟩ | exact ⟨_, rfl, rfl, rfl, fun _ _ => rfl⟩ | exact ⟨_, rfl, rfl, rfl⟩ | exact ⟨_, rfl, rfl⟩ | refine ⟨_, rfl, rfl, rfl, by omega, fun k hk => ?_⟩ | refine ⟨?_, ?_⟩ | fail))
  rintro ⟨⟨i, acc⟩, hi, hs⟩
  dsimp only at hi hs ⊢
  (refine Tri.cut 2 Tryz.mixed Tryz.T_ok ?_; refine xZ ?_)
  refine wC (fun h1 => ?_) (fun h1 => ?_)
  · (refine xG ?_)
    have h1' : i < l.length := xW
    have hw : IntKind.i64.wrap ((i : Int) + 1) = ((i + 1 : Nat) : Int) := xW
    rw [drop_cons h1', sumM] at hs
    refine wD <| cutG <| Tri.seq <| Tri.block <| Tri.of Tryz.mixed Tryz.T_ok ?_
    (refine xB ?_)
    (repeat (refine wN ?_ ?_; exact xW; refine xG ?_))
    simp only [Nat.zero_add, Int.toNat_natCast]
    cases h2 : bothB acc (l.getD i 0) (IntKind.i64.wrap (acc + l.getD i 0)) with
    | true =>
      rw [h2, if_pos rfl] at hs
      (apply wP; exact (call_op rfl (entersB_of Tryz.func154 (by kernel_rfl)) rfl (add_true h2 _ _)); refine xZ ?_)
      refine wD <| blockN <| cutG <| Tri.of Tryz.mixed Tryz.T_ok ?_
      (refine xB ?_)
      refine wD <| loopN ⟨⟨(i + 1, IntKind.i64.wrap (acc + l.getD i 0)), h1', hs⟩, by dsimp only; omega, ?_⟩
      rw [hw]
      ((try dsimp only); refine Ent.renC [0] hC ?_ ?_ <;> repeat' (first | exact trivial | exact rfl | exact ⟨_, rfl, rfl, rfl, Nat.le_refl _, fun _ _ => rfl⟩ | exact ⟨_, rfl, rfl, rfl, fun _ _ => rfl⟩ | exact ⟨_, rfl, rfl, rfl⟩ | exact ⟨_, rfl, rfl⟩ | refine ⟨_, rfl, rfl, rfl, by omega, fun k hk => ?_⟩ | refine ⟨?_, ?_⟩ | fail))
    | false =>
      rw [h2, if_neg (by simp)] at hs
      (apply wP; exact (call_op rfl (entersB_of Tryz.func154 (by kernel_rfl)) rfl (add_false h2 _ _)); refine xZ ?_)
      refine wD <| blockR <| cutR <| loopR <| blockR <| cutR <| Ends.plain (.inr rfl) rfl ?_
      rw [sumX, hs]; rfl
  · (refine xG ?_)
    have h1' : i = l.length := xW
    subst h1'
    rw [List.drop_length, sumM] at hs
    refine wD <| cutE <| loopX <| blockX <| cutG <| Tri.of Tryz.mixed Tryz.T_ok ?_
    (refine xB ?_)
    refine wD (Ends.plain (.inr rfl) rfl ?_)
    rw [sumX, hs]; rfl
end Go.Proofs.YtnpkdoggfnlapaaGreatDoor
namespace Go.Proofs.YtnpkdoggfnlapaaGreatDoor
set_option maxRecDepth 100000
open Go.Sx
def FwdM.x (f : FwdM) : CV := .agg (f.cells.map .raw)
theorem dec_gt {a b : Int} : decide (b < a) = !decide (a ≤ b) := by rw [Bool.eq_iff_iff]; simp
theorem dec_ge {a b c : Int} (h : b = c) : decide (a < b) = !decide (c ≤ a) := by subst h; rw [Bool.eq_iff_iff]; simp
theorem outOK_ref (o : OutM) : outOK o = !(zeroB o.to || (decide (o.amt.toInt < 1) || decide (1125899906842624 < o.amt.toInt))) := by
  rw [outOK, moneyB, withinB, dec_ge (a := o.amt.toInt) (b := 1) rfl, dec_gt]
  cases zeroB o.to <;> cases decide (1 ≤ o.amt.toInt) <;> cases decide (o.amt.toInt ≤ 1125899906842624) <;> rfl
theorem routs_can (l : List OutM) (hl : l.length ≤ 1000000000) : Reads Tryz.prog 110 [.row 9 l.length (outsF l)] [] (XV.bool (outsOK l)) := by
  refine Reads.of Tryz.T_ok Tryz.func110 rfl _ _ _ rfl rfl (fun C hC => ?_)
  (replace hC : C.n0 = 1 := hC; change Tri _ _ _ ⟨_, _, 1⟩ _)
  (refine Tri.cut 2 Tryz.mixed Tryz.T_ok ?_; refine xZ ?_)
  refine wC (fun h0 => ?_) (fun h0 => ?_)
  · have h0' : 16 < l.length := xW
    (refine xG ?_)
    refine wD <| cutR <| Ends.plain (.inr rfl) rfl ?_
    rw [outsOK, show decide (l.length ≤ 16) = false by rw [decide_eq_false_iff_not]; omega, Bool.and_false]
  have h0' : l.length ≤ 16 := xW
  (refine xG ?_)
  refine wD <| cutG <| Tri.seq ?_
  (refine Tri.cut 1 Tryz.mixed Tryz.T_ok ?_; refine xZ ?_)
  refine wD <| cutG <| Tri.block ?_
  refine Tri.loop (α := { i : Nat // i ≤ l.length ∧ (l.take i).all outOK = true }) (fun i => ⟨[some (XV.sv (.slc 0 9 0 l.length)), none, none, some (XV.int .i64 i.1)] ++ List.replicate 31 none, [(0, .ro 9 l.length (outsF l))], 1⟩) (fun i => l.length - i.1) ⟨0, Nat.zero_le _, rfl⟩ ?_ ?_
  · ((try dsimp only); refine Ent.renC [0] hC ?_ ?_ <;> repeat' (first | exact trivial | exact rfl | exact ⟨_, rfl, rfl, rfl, Nat.le_refl _, fun _ _ => rfl⟩ | exact ⟨_, rfl, rfl, rfl, fun _ _ => rfl⟩ | exact ⟨_, rfl, rfl, rfl⟩ | exact ⟨_, rfl, rfl⟩ | refine ⟨_, rfl, rfl, rfl, by omega, fun k hk => ?_⟩ | refine ⟨?_, ?_⟩ | fail))
  rintro ⟨i, hi, ha⟩
  dsimp only
  (refine Tri.cut 1 Tryz.mixed Tryz.T_ok ?_; refine xZ ?_)
  refine wC (fun h1 => ?_) (fun h1 => ?_)
  · (refine xG ?_)
    have h1' : i < l.length := xW
    have hs := all_take_succ (p := outOK) h1'
    have hw : IntKind.i64.wrap ((i : Int) + 1) = ((i + 1 : Nat) : Int) := xW
    refine wD <| cutG <| Tri.seq <| Tri.block <| Tri.of Tryz.mixed Tryz.T_ok ?_
    (refine xB ?_)
    (repeat (refine wN ?_ ?_; exact xW; refine xG ?_))
    simp only [Nat.zero_add, Int.toNat_natCast]
    (apply wP; exact (call_op rfl (entersB_of Tryz.func147 (by kernel_rfl)) rfl ((rzero_can (l.getD i default).to).at [] ⟨lend_plain rfl, trivial⟩ trivial)); refine xZ ?_)
    refine wC (fun h2 => ?_) (fun h2 => ?_)
    · (refine xG ?_)
      refine wD <| blockR <| cutR <| loopR <| blockR <| cutR <| Ends.plain (.inr rfl) rfl ?_
      rw [outsOK, all_false h1' (by rw [outOK_ref, h2]; rfl), Bool.false_and]
    · (refine xG ?_)
      (repeat (refine wN ?_ ?_; exact xW; refine xG ?_))
      simp only [Nat.zero_add, Int.toNat_natCast]
      refine wC (fun h3 => ?_) (fun h3 => ?_)
      · (refine xG ?_)
        refine wD <| blockR <| cutR <| loopR <| blockR <| cutR <| Ends.plain (.inr rfl) rfl ?_
        rw [outsOK, all_false h1' (by rw [outOK_ref, h2, h3]; rfl), Bool.false_and]
      · (refine xG ?_)
        (repeat (refine wN ?_ ?_; exact xW; refine xG ?_))
        simp only [Nat.zero_add, Int.toNat_natCast]
        refine wC (fun h4 => ?_) (fun h4 => ?_)
        · (refine xG ?_)
          refine wD <| blockR <| cutR <| loopR <| blockR <| cutR <| Ends.plain (.inr rfl) rfl ?_
          rw [outsOK, all_false h1' (by rw [outOK_ref, h2, h3, h4]; rfl), Bool.false_and]
        · (refine xG ?_)
          refine wD <| blockN <| cutG <| Tri.of Tryz.mixed Tryz.T_ok ?_
          (refine xB ?_)
          refine wD <| loopN ⟨⟨i + 1, h1', by rw [hs, ha, outOK_ref, h2, h3, h4]; rfl⟩, by dsimp only; omega, ?_⟩
          rw [hw]
          ((try dsimp only); refine Ent.renC [0] hC ?_ ?_ <;> repeat' (first | exact trivial | exact rfl | exact ⟨_, rfl, rfl, rfl, Nat.le_refl _, fun _ _ => rfl⟩ | exact ⟨_, rfl, rfl, rfl, fun _ _ => rfl⟩ | exact ⟨_, rfl, rfl, rfl⟩ | exact ⟨_, rfl, rfl⟩ | refine ⟨_, rfl, rfl, rfl, by omega, fun k hk => ?_⟩ | refine ⟨?_, ?_⟩ | fail))
  · (refine xG ?_)
    have h1' : i = l.length := xW
    subst h1'
    rw [List.take_length] at ha
    refine wD <| cutE <| loopX <| blockX <| cutG <| Tri.of Tryz.mixed Tryz.T_ok ?_
    (refine xB ?_)
    refine wD (Ends.plain (.inr rfl) rfl ?_)
    rw [outsOK, ha, show decide (l.length ≤ 16) = true from decide_eq_true h0']; rfl
end Go.Proofs.YtnpkdoggfnlapaaGreatDoor
namespace Go.Proofs.YtnpkdoggfnlapaaGreatDoor
set_option maxRecDepth 100000
open Go.Sx
end Go.Proofs.YtnpkdoggfnlapaaGreatDoor
namespace Go.Proofs.YtnpkdoggfnlapaaGreatDoor
set_option maxRecDepth 100000
open Go.Sx
theorem noPar_can (p : ParM) (hl : p.keys.length ≤ 1000000000) : Reads Tryz.prog 108 [.box p.ac] [] (XV.bool (parZ p)) := by
  refine Reads.of Tryz.T_ok Tryz.func108 rfl _ _ _ rfl rfl (fun C hC => ?_)
  (replace hC : C.n0 = 1 := hC; change Tri _ _ _ ⟨_, _, 1⟩ _)
  refine Tri.of Tryz.mixed Tryz.T_ok ?_
  (refine xB ?_)
  refine wC (fun h1 => ?_) (fun h1 => ?_)
  · (refine xG ?_)
    refine wC (fun h2 => ?_) (fun h2 => ?_)
    · (refine xG ?_)
      refine wC (fun h3 => ?_) (fun h3 => ?_)
      · (refine xG ?_)
        exact wD (Ends.plain (.inr rfl) rfl (by rw [parZ, h1, h2, h3]; rfl))
      · (refine xG ?_)
        exact wD (Ends.plain (.inr rfl) rfl (by rw [parZ, h1, h2, h3]; rfl))
    · (refine xG ?_)
      exact wD (Ends.plain (.inr rfl) rfl (by rw [parZ, h1, h2]; rfl))
  · (refine xG ?_)
    exact wD (Ends.plain (.inr rfl) rfl (by rw [parZ, h1]; rfl))
end Go.Proofs.YtnpkdoggfnlapaaGreatDoor
namespace Go.Sx
theorem new_elem {S : St} {x : Operand} {c off sz sz1 i j k cap n : Nat} {f g : Nat → List Value} {rd : List Nat} (hx : S.ev x = some (XV.sv (.sla c off sz1 k cap))) (hm : S.mem.get c = some (.ro sz n f)) (hrd : nmem c rd = true) (hoff : off = i * sz + j) (hi : i < n) (hl : ∀ q, q < k → (g q).length = sz1) (hf : ((f i).drop j).take (k * sz1) = tabF g 0 k) : NewOp S x rd sz1 k g := by
  intro β ow w v h1 h2
  have hv := h1 _ hx
  have hh := h2 c ((nmem_iff c rd).1 hrd) _ hm
  obtain ⟨a, e1, e2, e3⟩ := hv
  simp only [Holds] at hh
  by_cases hnil : (β c).nil = true
  · rw [if_pos hnil] at hh
    omega
  rw [if_neg hnil] at hh
  obtain ⟨v1, v2, v7⟩ := hh
  refine ⟨⟨some a, _, e1, fun hk => ⟨a, rfl, flat_cells hl fun q hq r v hv => ?_⟩⟩, hl⟩
  have hr : r < sz1 := by rw [← hl q hq]; exact (List.getElem?_eq_some_iff.1 hv).1
  have hg : ((f i).drop j)[q * sz1 + r]? = some v := by
    have h5 := flat_get (m := k) hl hq hr
    rw [← tabF_eq, ← hf, hv] at h5
    rw [List.getElem?_take] at h5
    split at h5
    · exact h5
    · cases h5
  rw [List.getElem?_drop] at hg
  have := (v7 i hi).2 (j + (q * sz1 + r)) v hg
  rw [e3 (by omega), loc_add, ← this]
  congr 2
  rw [hoff]; omega
end Go.Sx
namespace Go.Proofs.YtnpkdoggfnlapaaGreatDoor
set_option maxRecDepth 100000
open Go.Sx
theorem drop_pre {E : Type} (pre l : List E) (k : Nat) : (pre ++ l).drop (pre.length + k) = l.drop k := by rw [← List.drop_drop, List.drop_left]
theorem hashesL_zero (p : Nat → H8) : hashesL p 0 = [] := rfl
theorem tab_hash_mid (p : Nat → H8) : ∀ (m i n : Nat) (post : List Value), n < m → (((tabF (hashF p) i m ++ post).drop (n * 8)).take 8) = (p (i + n)).cells
  | 0, _, _, _, h => absurd h (Nat.not_lt_zero _)
  | m + 1, i, 0, post, _ => rfl
  | m + 1, i, n + 1, post, h => by
    have e : (n + 1) * 8 = (p i).cells.length + n * 8 := by show _ = 8 + n * 8; omega
    show (((p i).cells ++ tabF (hashF p) (i + 1) m ++ post).drop ((n + 1) * 8)).take 8 = _
    rw [List.append_assoc, e, drop_pre, tab_hash_mid p m (i + 1) n post (by omega)]
    rw [show i + 1 + n = i + (n + 1) by omega]
theorem tab_hash_at (p : Nat → H8) (j : Nat) {m n off l : Nat} {pre post cs : List Value} (hcs : cs = pre ++ (tabF (hashF p) 0 m ++ post)) (hn : n < m) (hj : j = pre.length) (hoff : off = j + n * 8) (hl : l = 8) : ((cs.map SV.raw).drop off).take (l * 1) = (tabF (rowB (p n).l) 0 l).map .raw := by
  subst hcs hoff hj hl
  rw [← List.map_drop, ← List.map_take, drop_pre, tab_hash_mid p m 0 n post hn, Nat.zero_add]
  rfl
def sigBs (s : SigM) (a b c : Nat) : List UInt8 := (numL s.idx 1 :: (hashesL s.opn a ++ (hashesL s.shut b ++ hashesL s.path c))).flatten
theorem sigBs_len (s : SigM) (a b c : Nat) : (sigBs s a b c).length = 1 + 8 * (a + b + c) := by
  simp only [sigBs, List.flatten_cons, List.flatten_append, List.length_append, hashesL_flat, numL_length]; omega
theorem sigBs_a (s : SigM) (a : Nat) : sigBs s (a + 1) 0 0 = sigBs s a 0 0 ++ (s.opn a).l := by simp [sigBs, hashesL_succ, hashesL_zero]
theorem sigBs_b (s : SigM) (b : Nat) : sigBs s 16 (b + 1) 0 = sigBs s 16 b 0 ++ (s.shut b).l := by simp [sigBs, hashesL_succ, hashesL_zero]
theorem sigBs_c (s : SigM) (c : Nat) : sigBs s 16 16 (c + 1) = sigBs s 16 16 c ++ (s.path c).l := by simp [sigBs, hashesL_succ]
theorem sig_cells_a (s : SigM) : s.cells = [.int .i64 s.idx] ++ (tabF (hashF s.opn) 0 16 ++ (tabF (hashF s.shut) 0 16 ++ tabF (hashF s.path) 0 3)) := by simp [SigM.cells]
theorem sig_cells_b (s : SigM) : s.cells = (.int .i64 s.idx :: tabF (hashF s.opn) 0 16) ++ (tabF (hashF s.shut) 0 16 ++ tabF (hashF s.path) 0 3) := by simp [SigM.cells]
theorem sig_cells_c (s : SigM) : s.cells = (.int .i64 s.idx :: (tabF (hashF s.opn) 0 16 ++ tabF (hashF s.shut) 0 16)) ++ (tabF (hashF s.path) 0 3 ++ []) := by simp [SigM.cells]
def rsigSt (s : SigM) (pre : List (Option XV)) (post : Nat) (b : List UInt8) (i : Nat) : St :=
  ⟨[none, some (XV.sv (.ptr 1 0 0 0)), none, some (XV.sv (.slc 2 1 0 b.length))] ++ pre ++ [some (XV.int .i64 i)] ++ List.replicate post none, [(1, .cells 190 (s.cells.map .raw)), (2, .vec 5 1 b.length (rowB b))], 3⟩
set_option maxHeartbeats 4000000 in
theorem rsig_can (s : SigM) : Makes Tryz.prog 149 [.plain s.x] [] (XV.sv (.slc 0 1 0 281)) (.vec 5 1 281 (rowB s.parts.flatten)) := by
  refine Makes.of Tryz.T_ok Tryz.func149 rfl _ _ _ _ rfl rfl rfl rfl 2 (fun C hC => ?_)
  (replace hC : C.n0 = 1 := hC; change Tri _ _ _ ⟨_, _, 1⟩ _)
  (refine Tri.cut 2 Tryz.mixed Tryz.T_ok ?_; refine xZ ?_)
  (apply wP; exact (call_op rfl (entersB_of Tryz.func72 (by kernel_rfl)) rfl ((num_can s.idx 1 (by decide)).at [] ⟨lend_plain rfl, lend_plain rfl, trivial⟩ trivial)); refine xZ ?_)
  refine wD <| cutG <| Tri.seq ?_
  (refine Tri.cut 1 Tryz.mixed Tryz.T_ok ?_; refine xZ ?_)
  refine wD <| cutG <| Tri.block ?_
  refine Tri.loop (α := { i : Nat // i ≤ 16 }) (fun i => rsigSt s [] 36 (sigBs s i.1 0 0) i.1) (fun i => 16 - i.1) ⟨0, Nat.zero_le _⟩ ?_ ?_
  · dsimp only
    rw [rsigSt, sigBs_len]
    ((try dsimp only); refine Ent.renC [0, 1, 5] hC ?_ ?_ <;> repeat' (first | exact trivial | exact rfl | exact ⟨_, rfl, rfl, rfl, Nat.le_refl _, fun _ _ => rfl⟩ | exact ⟨_, rfl, rfl, rfl, fun _ _ => rfl⟩ | exact ⟨_, rfl, rfl, rfl⟩ | exact ⟨_, rfl, rfl⟩ | refine ⟨_, rfl, rfl, rfl, by omega, fun k hk => ?_⟩ | refine ⟨?_, ?_⟩ | fail))
  rintro ⟨i, hi⟩
  dsimp only
  have hl := sigBs_len s i 0 0
  (refine Tri.cut 1 Tryz.mixed Tryz.T_ok ?_; refine xZ ?_)
  refine wC (fun h1 => ?_) (fun h1 => ?_)
  · (refine xG ?_)
    have h1' : i < 16 := xW
    have hw : IntKind.i64.wrap ((i : Int) + 1) = ((i + 1 : Nat) : Int) := xW
    refine wD <| cutG <| Tri.seq <| Tri.block <| Tri.of Tryz.mixed Tryz.T_ok ?_
    (refine xB ?_)
    (repeat (refine wN ?_ ?_; exact xW; refine xG ?_))
    simp only [Nat.zero_add, Int.toNat_natCast]
    (refine wP _ _ (append_op Tryz.T_ok rfl rfl rfl rfl rfl [2, 1] (old_vec rfl rfl (Nat.le_refl _) rfl) (new_sla (g := rowB (s.opn i).l) rfl rfl rfl (fun _ _ => rfl) (tab_hash_at s.opn 1 (sig_cells_a s) h1' rfl (by omega) rfl)) rfl (fun _ _ => rfl) (by simp only [maxLen]; omega) (by dsimp only; omega)) ?_; refine xZ ?_)
    refine wD <| blockN <| cutG <| Tri.of Tryz.mixed Tryz.T_ok ?_
    (refine xB ?_)
    refine wD <| loopN ⟨⟨i + 1, h1'⟩, by dsimp only; omega, ?_⟩
    rw [hw]
    dsimp only
    rw [rsigSt, sigBs_a, List.length_append]
    ((try dsimp only); refine Ent.renC [0, 1, 10] hC ?_ ?_ <;> repeat' (first | exact trivial | exact rfl | exact ⟨_, rfl, rfl, rfl, Nat.le_refl _, fun _ _ => rfl⟩ | exact ⟨_, rfl, rfl, rfl, fun _ _ => rfl⟩ | exact ⟨_, rfl, rfl, rfl⟩ | exact ⟨_, rfl, rfl⟩ | refine ⟨_, rfl, rfl, rfl, by omega, fun k hk => ?_⟩ | refine ⟨?_, ?_⟩ | fail))
    · exact Nat.le_refl _
    exact fun k hk => rowB_join rfl (fun _ _ => rfl) (fun _ _ => rfl) hk
  · (refine xG ?_)
    have h1' : i = 16 := xW
    subst h1'
    refine wD <| cutE <| loopX <| blockX <| cutG <| Tri.seq ?_
    (refine Tri.cut 1 Tryz.mixed Tryz.T_ok ?_; refine xZ ?_)
    refine wD <| cutG <| Tri.block ?_
    refine Tri.loop (α := { i : Nat // i ≤ 16 }) (fun i => rsigSt s [none] 35 (sigBs s 16 i.1 0) i.1) (fun i => 16 - i.1) ⟨0, Nat.zero_le _⟩ ?_ ?_
    · dsimp only
      rw [rsigSt]
      ((try dsimp only); refine Ent.renC [0, 1, 2] hC ?_ ?_ <;> repeat' (first | exact trivial | exact rfl | exact ⟨_, rfl, rfl, rfl, Nat.le_refl _, fun _ _ => rfl⟩ | exact ⟨_, rfl, rfl, rfl, fun _ _ => rfl⟩ | exact ⟨_, rfl, rfl, rfl⟩ | exact ⟨_, rfl, rfl⟩ | refine ⟨_, rfl, rfl, rfl, by omega, fun k hk => ?_⟩ | refine ⟨?_, ?_⟩ | fail))
    rintro ⟨i, hi⟩
    dsimp only
    have hl := sigBs_len s 16 i 0
    (refine Tri.cut 1 Tryz.mixed Tryz.T_ok ?_; refine xZ ?_)
    refine wC (fun h1 => ?_) (fun h1 => ?_)
    · (refine xG ?_)
      have h1' : i < 16 := xW
      have hw : IntKind.i64.wrap ((i : Int) + 1) = ((i + 1 : Nat) : Int) := xW
      refine wD <| cutG <| Tri.seq <| Tri.block <| Tri.of Tryz.mixed Tryz.T_ok ?_
      (refine xB ?_)
      (repeat (refine wN ?_ ?_; exact xW; refine xG ?_))
      simp only [Nat.zero_add, Int.toNat_natCast]
      (refine wP _ _ (append_op Tryz.T_ok rfl rfl rfl rfl rfl [2, 1] (old_vec rfl rfl (Nat.le_refl _) rfl) (new_sla (g := rowB (s.shut i).l) rfl rfl rfl (fun _ _ => rfl) (tab_hash_at s.shut 129 (sig_cells_b s) h1' rfl (by omega) rfl)) rfl (fun _ _ => rfl) (by simp only [maxLen]; omega) (by dsimp only; omega)) ?_; refine xZ ?_)
      refine wD <| blockN <| cutG <| Tri.of Tryz.mixed Tryz.T_ok ?_
      (refine xB ?_)
      refine wD <| loopN ⟨⟨i + 1, h1'⟩, by dsimp only; omega, ?_⟩
      rw [hw]
      dsimp only
      rw [rsigSt, sigBs_b, List.length_append]
      ((try dsimp only); refine Ent.renC [0, 1, 10] hC ?_ ?_ <;> repeat' (first | exact trivial | exact rfl | exact ⟨_, rfl, rfl, rfl, Nat.le_refl _, fun _ _ => rfl⟩ | exact ⟨_, rfl, rfl, rfl, fun _ _ => rfl⟩ | exact ⟨_, rfl, rfl, rfl⟩ | exact ⟨_, rfl, rfl⟩ | refine ⟨_, rfl, rfl, rfl, by omega, fun k hk => ?_⟩ | refine ⟨?_, ?_⟩ | fail))
      · exact Nat.le_refl _
      exact fun k hk => rowB_join rfl (fun _ _ => rfl) (fun _ _ => rfl) hk
    · (refine xG ?_)
      have h1' : i = 16 := xW
      subst h1'
      refine wD <| cutE <| loopX <| blockX <| cutG <| Tri.seq ?_
      (refine Tri.cut 1 Tryz.mixed Tryz.T_ok ?_; refine xZ ?_)
      refine wD <| cutG <| Tri.block ?_
      refine Tri.loop (α := { i : Nat // i ≤ 3 }) (fun i => rsigSt s [none, none] 34 (sigBs s 16 16 i.1) i.1) (fun i => 3 - i.1) ⟨0, Nat.zero_le _⟩ ?_ ?_
      · dsimp only
        rw [rsigSt]
        ((try dsimp only); refine Ent.renC [0, 1, 2] hC ?_ ?_ <;> repeat' (first | exact trivial | exact rfl | exact ⟨_, rfl, rfl, rfl, Nat.le_refl _, fun _ _ => rfl⟩ | exact ⟨_, rfl, rfl, rfl, fun _ _ => rfl⟩ | exact ⟨_, rfl, rfl, rfl⟩ | exact ⟨_, rfl, rfl⟩ | refine ⟨_, rfl, rfl, rfl, by omega, fun k hk => ?_⟩ | refine ⟨?_, ?_⟩ | fail))
      rintro ⟨i, hi⟩
      dsimp only
      have hl := sigBs_len s 16 16 i
      (refine Tri.cut 1 Tryz.mixed Tryz.T_ok ?_; refine xZ ?_)
      refine wC (fun h1 => ?_) (fun h1 => ?_)
      · (refine xG ?_)
        have h1' : i < 3 := xW
        have hw : IntKind.i64.wrap ((i : Int) + 1) = ((i + 1 : Nat) : Int) := xW
        refine wD <| cutG <| Tri.seq <| Tri.block <| Tri.of Tryz.mixed Tryz.T_ok ?_
        (refine xB ?_)
        (repeat (refine wN ?_ ?_; exact xW; refine xG ?_))
        simp only [Nat.zero_add, Int.toNat_natCast]
        (refine wP _ _ (append_op Tryz.T_ok rfl rfl rfl rfl rfl [2, 1] (old_vec rfl rfl (Nat.le_refl _) rfl) (new_sla (g := rowB (s.path i).l) rfl rfl rfl (fun _ _ => rfl) (tab_hash_at s.path 257 (sig_cells_c s) h1' rfl (by omega) rfl)) rfl (fun _ _ => rfl) (by simp only [maxLen]; omega) (by dsimp only; omega)) ?_; refine xZ ?_)
        refine wD <| blockN <| cutG <| Tri.of Tryz.mixed Tryz.T_ok ?_
        (refine xB ?_)
        refine wD <| loopN ⟨⟨i + 1, h1'⟩, by dsimp only; omega, ?_⟩
        rw [hw]
        dsimp only
        rw [rsigSt, sigBs_c, List.length_append]
        ((try dsimp only); refine Ent.renC [0, 1, 10] hC ?_ ?_ <;> repeat' (first | exact trivial | exact rfl | exact ⟨_, rfl, rfl, rfl, Nat.le_refl _, fun _ _ => rfl⟩ | exact ⟨_, rfl, rfl, rfl, fun _ _ => rfl⟩ | exact ⟨_, rfl, rfl, rfl⟩ | exact ⟨_, rfl, rfl⟩ | refine ⟨_, rfl, rfl, rfl, by omega, fun k hk => ?_⟩ | refine ⟨?_, ?_⟩ | fail))
        · exact Nat.le_refl _
        exact fun k hk => rowB_join rfl (fun _ _ => rfl) (fun _ _ => rfl) hk
      · (refine xG ?_)
        have h1' : i = 3 := xW
        subst h1'
        refine wD <| cutE <| loopX <| blockX <| cutG <| Tri.of Tryz.mixed Tryz.T_ok ?_
        (refine xB ?_)
        exact wD (Ends.made (.inr rfl) (Ent.refl _) rfl (Nat.le_of_ble_eq_true rfl) rfl)
end Go.Proofs.YtnpkdoggfnlapaaGreatDoor
