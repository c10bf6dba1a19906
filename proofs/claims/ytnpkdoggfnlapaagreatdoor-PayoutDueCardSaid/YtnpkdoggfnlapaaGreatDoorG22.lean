/- Parts Hr Hs Hw Yr Ym Yt Za Zm Zo Zp Bb Bc Bd Be Bf Bg. -/
import Derived.Test.YtnpkdoggfnlapaaGreatDoorG21
import Derived.Test.YtnpkdoggfnlapaaGreatDoorG11
import Derived.Test.YtnpkdoggfnlapaaGreatDoorG20
import Derived.Test.YtnpkdoggfnlapaaGreatDoorG18
import Derived.Test.YtnpkdoggfnlapaaGreatDoorG16
import Derived.Test.YtnpkdoggfnlapaaGreatDoorG17
import Derived.Test.YtnpkdoggfnlapaaGreatDoorG19
set_option linter.unusedSimpArgs false
set_option linter.unusedVariables false
namespace Go.Proofs.YtnpkdoggfnlapaaGreatDoor
set_option maxRecDepth 100000
open Go.Sx
def w4v (a b c d : UInt8) : Nat := Nat.add (Nat.mul (Nat.add (Nat.mul (Nat.add (Nat.mul a.toNat 256) b.toNat) 256) c.toNat) 256) d.toNat
def w4 : List UInt8 → List Nat
  | a :: b :: c :: d :: r => w4v a b c d :: w4 r
  | _ => []
theorem w4_get : ∀ (i : Nat) (l : List UInt8), 4 * i + 3 < l.length → (w4 l).getD i 0 = w4v (l.getD (4 * i) 0) (l.getD (4 * i + 1) 0) (l.getD (4 * i + 2) 0) (l.getD (4 * i + 3) 0)
  | i, [], h => by simp at h
  | i, [_], h => by simp at h
  | i, [_, _], h => by simp only [List.length_cons, List.length_nil] at h; omega
  | i, [_, _, _], h => by simp only [List.length_cons, List.length_nil] at h; omega
  | 0, a :: b :: c :: d :: r, h => rfl
  | i + 1, a :: b :: c :: d :: r, h => by
    have := w4_get i r (by simp only [List.length_cons] at h; omega)
    show (w4 r).getD i 0 = _
    rw [this]
    rfl
theorem push_nat {w : Nat} (h : w < 16777216) (x : UInt8) : push (w : Int) x = ((Nat.add (Nat.mul w 256) x.toNat : Nat) : Int) := by
  have hx := x.toNat_lt
  have e1 : shlI .u32 (w : Int) 8 = ((Nat.mod (Nat.shiftLeft w 8) 4294967296 : Nat) : Int) := shl32_nat w 8 (by decide)
  have e2 : Nat.mod (Nat.shiftLeft w 8) 4294967296 = w <<< 8 := by
    show (w <<< 8) % 4294967296 = _
    rw [Nat.shiftLeft_eq]; omega
  have e3 : IntKind.u32.wrap (x.toNat : Int) = (x.toNat : Int) := by rw [IntKind.wrap_u32]; omega
  have b1 : B32 (w <<< 8) := by rw [Nat.shiftLeft_eq]; omega
  rw [push, e1, e2, e3, or_nat b1 (by omega)]
  congr 1
  show (w <<< 8) ||| x.toNat = w * 256 + x.toNat
  rw [← Nat.shiftLeft_add_eq_or_of_lt (by omega : x.toNat < 2 ^ 8), Nat.shiftLeft_eq]
theorem word_nat (b : Nat → UInt8) (i : Nat) : word b i = ((w4v (b (4 * i)) (b (4 * i + 1)) (b (4 * i + 2)) (b (4 * i + 3)) : Nat) : Int) ∧ B32 (w4v (b (4 * i)) (b (4 * i + 1)) (b (4 * i + 2)) (b (4 * i + 3))) := by
  have h0 := (b (4 * i)).toNat_lt
  have h1 := (b (4 * i + 1)).toNat_lt
  have h2 := (b (4 * i + 2)).toNat_lt
  have h3 := (b (4 * i + 3)).toNat_lt
  constructor
  · rw [word, show (0 : Int) = ((0 : Nat) : Int) from rfl, push_nat (by decide), push_nat, push_nat, push_nat]
    · show (((((0 * 256 + (b (4 * i)).toNat) * 256 + (b (4 * i + 1)).toNat) * 256 + (b (4 * i + 2)).toNat) * 256 + (b (4 * i + 3)).toNat : Nat) : Int) = _
      rw [Nat.zero_mul, Nat.zero_add]
      rfl
    · show ((0 * 256 + (b (4 * i)).toNat) * 256 + (b (4 * i + 1)).toNat) * 256 + (b (4 * i + 2)).toNat < _
      omega
    · show (0 * 256 + (b (4 * i)).toNat) * 256 + (b (4 * i + 1)).toNat < _
      omega
    · show 0 * 256 + (b (4 * i)).toNat < _
      omega
  · show (((b (4 * i)).toNat * 256 + (b (4 * i + 1)).toNat) * 256 + (b (4 * i + 2)).toNat) * 256 + (b (4 * i + 3)).toNat < _
    omega
theorem added_nat {h0 : Nat → Int} {b : Nat → UInt8} {a b' c d e f g h a2 b2 c2 d2 e2 f2 g2 h2 : Nat} (R : R8 h0 a b' c d e f g h) (R2 : R8 (stepsV h0 b 64) a2 b2 c2 d2 e2 f2 g2 h2) : R8 (blockW h0 b) (nadd a a2) (nadd b' b2) (nadd c c2) (nadd d d2) (nadd e e2) (nadd f f2) (nadd g g2) (nadd h h2) := by
  refine ⟨?_, ?_, ?_, ?_, ?_, ?_, ?_, ?_, mod_lt32 _, mod_lt32 _, mod_lt32 _, mod_lt32 _, mod_lt32 _, mod_lt32 _, mod_lt32 _, mod_lt32 _⟩
  · rw [blockW, R.h0, R2.h0, w32_nat]
  · rw [blockW, R.h1, R2.h1, w32_nat]
  · rw [blockW, R.h2, R2.h2, w32_nat]
  · rw [blockW, R.h3, R2.h3, w32_nat]
  · rw [blockW, R.h4, R2.h4, w32_nat]
  · rw [blockW, R.h5, R2.h5, w32_nat]
  · rw [blockW, R.h6, R2.h6, w32_nat]
  · rw [blockW, R.h7, R2.h7, w32_nat]
theorem getD_drop {E : Type} (l : List E) (n i : Nat) (d : E) : (l.drop n).getD i d = l.getD (n + i) d := by rw [List.getD_eq_getElem?_getD, List.getElem?_drop, ← List.getD_eq_getElem?_getD]
theorem nblocks_eq {α : Type} (l : List UInt8) (k : Nat → Nat → α) : ∀ m t, t + m = blocksN l → ∀ (a b c d e f g h : Nat), R8 (stateH l t) a b c d e f g h →
    ∃ x y : Nat, stateH l (blocksN l) 0 = (x : Int) ∧ stateH l (blocksN l) 1 = (y : Int) ∧ nblocks m ((w4 (padL l)).drop (16 * t)) a b c d e f g h k = k x y
  | 0, t, ht, a, b, c, d, e, f, g, h, R => by
    obtain rfl : t = blocksN l := by omega
    exact ⟨a, b, R.h0, R.h1, rfl⟩
  | m + 1, t, ht, a, b, c, d, e, f, g, h, R => by
    have hbl := blocks_eq l
    let ws : Nat → Nat := fun i => ((w4 (padL l)).drop (16 * t)).getD i 0
    have hW : WOk (blockAt l t) 0 ws := by
      intro i hi _
      have hg : ws i = w4v (blockAt l t (4 * i)) (blockAt l t (4 * i + 1)) (blockAt l t (4 * i + 2)) (blockAt l t (4 * i + 3)) := by
        show ((w4 (padL l)).drop (16 * t)).getD i 0 = _
        rw [getD_drop, w4_get _ _ (by omega)]
        simp only [blockAt, show 4 * (16 * t + i) = 64 * t + 4 * i by omega, Nat.add_assoc]
      have hw := word_nat (blockAt l t) i
      rw [hg, Nat.zero_add, sched_val _ 64 (by omega), if_pos hi]
      exact hw
    let K : Nat → Nat → Nat → Nat → Nat → Nat → Nat → Nat → α := fun a' b' c' d' e' f' g' h' => frc (nadd a a') fun a => frc (nadd b b') fun b => frc (nadd c c') fun c => frc (nadd d d') fun d => frc (nadd e e') fun e => frc (nadd f f') fun f => frc (nadd g g') fun g => frc (nadd h h') fun h => nblocks m (((w4 (padL l)).drop (16 * t)).drop 16) a b c d e f g h k
    obtain ⟨a2, b2, c2, d2, e2, f2, g2, h2, R2, hK⟩ := nrnd_eq (stateH l t) (blockAt l t) K 64 0 rfl a b c d e f g h R ws hW
    have hR : R8 (stateH l (t + 1)) _ _ _ _ _ _ _ _ := added_nat R R2
    obtain ⟨x, y, q1, q2, q3⟩ := nblocks_eq l k m (t + 1) (by omega) _ _ _ _ _ _ _ _ hR
    refine ⟨x, y, q1, q2, ?_⟩
    rw [← q3]
    have e1 : nblocks (m + 1) ((w4 (padL l)).drop (16 * t)) a b c d e f g h k = nrnd K (ksN.drop 0) a b c d e f g h (ws 0) (ws 1) (ws 2) (ws 3) (ws 4) (ws 5) (ws 6) (ws 7) (ws 8) (ws 9) (ws 10) (ws 11) (ws 12) (ws 13) (ws 14) (ws 15) := by
      show (frc (ws 0) fun w0 => frc (ws 1) fun w1 => frc (ws 2) fun w2 => frc (ws 3) fun w3 => frc (ws 4) fun w4 => frc (ws 5) fun w5 => frc (ws 6) fun w6 => frc (ws 7) fun w7 => frc (ws 8) fun w8 => frc (ws 9) fun w9 => frc (ws 10) fun w10 => frc (ws 11) fun w11 => frc (ws 12) fun w12 => frc (ws 13) fun w13 => frc (ws 14) fun w14 => frc (ws 15) fun w15 => nrnd K ksN a b c d e f g h w0 w1 w2 w3 w4 w5 w6 w7 w8 w9 w10 w11 w12 w13 w14 w15) = _
      simp only [frc_eq]
      rfl
    rw [e1, hK]
    show (frc (nadd a a2) fun a => frc (nadd b b2) fun b => frc (nadd c c2) fun c => frc (nadd d d2) fun d => frc (nadd e e2) fun e => frc (nadd f f2) fun f => frc (nadd g g2) fun g => frc (nadd h h2) fun h => nblocks m (((w4 (padL l)).drop (16 * t)).drop 16) a b c d e f g h k) = _
    simp only [frc_eq]
    rw [List.drop_drop, show 16 * t + 16 = 16 * (t + 1) by omega]
def h8of (x y : Nat) : H8 := ⟨UInt8.ofNat (Nat.shiftRight x 24), UInt8.ofNat (Nat.shiftRight x 16), UInt8.ofNat (Nat.shiftRight x 8), UInt8.ofNat x, UInt8.ofNat (Nat.shiftRight y 24), UInt8.ofNat (Nat.shiftRight y 16), UInt8.ofNat (Nat.shiftRight y 8), UInt8.ofNat y⟩
noncomputable def fsum {α : Type} (l : List UInt8) (k : H8 → α) : α := nblocks (blocksN l) (w4 (padL l)) 1779033703 3144134277 1013904242 2773480762 1359893119 2600822924 528734635 1541459225 fun x y => k (h8of x y)
noncomputable def fdig {α : Type} (p : UInt8) (bss : List (List UInt8)) (k : H8 → α) : α := fsum (encAll p bss) k
theorem byte_nat (x n : Nat) (hn : n ≤ 32) : byteI (IntKind.u8.wrap (shrI .u32 (x : Int) (n : Int))) = UInt8.ofNat (Nat.shiftRight x n) := by
  rw [shr32_nat x n hn, IntKind.wrap_u8, byteI]
  apply UInt8.toNat_inj.1
  rw [UInt8.toNat_ofNat', UInt8.toNat_ofNat']
  omega
theorem fdig_eq {α : Type} (p : UInt8) (bss : List (List UInt8)) (k : H8 → α) : fdig p bss k = k (dig p bss) := by
  have h0 : R8 (stateH (encAll p bss) 0) 1779033703 3144134277 1013904242 2773480762 1359893119 2600822924 528734635 1541459225 := by
    constructor <;> first | rfl | decide
  obtain ⟨x, y, hx, hy, hk⟩ := nblocks_eq (encAll p bss) (fun x y => k (h8of x y)) (blocksN (encAll p bss)) 0 (Nat.zero_add _) _ _ _ _ _ _ _ _ h0
  rw [fdig, fsum]
  refine hk.trans (congrArg k ?_)
  have b := byte_nat
  have s0 : ∀ z : Nat, Nat.shiftRight z 0 = z := fun _ => rfl
  have f : ∀ j : Nat, j < 8 → shaB (encAll p bss) j = UInt8.ofNat (Nat.shiftRight (if j < 4 then x else y) (24 - j % 4 * 8)) := by
    intro j hj
    rw [shaB]
    by_cases h4 : j < 4
    · rw [show j / 4 = 0 by omega, hx, if_pos h4, byte_nat _ _ (by omega)]
    · rw [show j / 4 = 1 by omega, hy, if_neg h4, byte_nat _ _ (by omega)]
  rw [dig, f 0 (by decide), f 1 (by decide), f 2 (by decide), f 3 (by decide), f 4 (by decide), f 5 (by decide), f 6 (by decide), f 7 (by decide)]
  rfl
end Go.Proofs.YtnpkdoggfnlapaaGreatDoor
namespace Go.Proofs.YtnpkdoggfnlapaaGreatDoor
set_option maxRecDepth 100000
open Go.Sx
noncomputable def fsecret {α : Type} (seed : H8) (idx i b : Nat) (k : H8 → α) : α := fdig 115 [seed.l, [byteI (IntKind.u8.wrap (idx : Int)), byteI (IntKind.u8.wrap (i : Int)), byteI (IntKind.u8.wrap (b : Int)), 0]] k
theorem fsecret_eq {α : Type} (seed : H8) (idx i b : Nat) (k : H8 → α) : fsecret seed idx i b k = k (secretH seed (idx : Int) (i : Int) (b : Int)) := fdig_eq _ _ _
noncomputable def fmark {α : Type} (h : H8) (k : H8 → α) : α := fdig 112 [h.l] k
theorem fmark_eq {α : Type} (h : H8) (k : H8 → α) : fmark h k = k (markH h) := fdig_eq _ _ _
noncomputable def fall {α : Type} (seed : H8) (idx : Nat) (n : Nat) : Nat → List UInt8 → (List UInt8 → α) → α :=
  @Nat.rec (fun _ => Nat → List UInt8 → (List UInt8 → α) → α) (fun _ acc k => k acc)
    (fun _ ih i acc k => fsecret seed idx i 0 fun s0 => fmark s0 fun m0 => fsecret seed idx i 1 fun s1 => fmark s1 fun m1 => ih (Nat.succ i) (acc ++ m0.l ++ m1.l) k) n
theorem fall_eq {α : Type} (seed : H8) (idx : Nat) (k : List UInt8 → α) : ∀ n i, fall seed idx n i (allB (fun i b => markH (secretH seed (idx : Int) (i : Int) (b : Int))) i) k = k (allB (fun i b => markH (secretH seed (idx : Int) (i : Int) (b : Int))) (i + n))
  | 0, i => rfl
  | n + 1, i => by
    show (fsecret seed idx i 0 fun s0 => fmark s0 fun m0 => fsecret seed idx i 1 fun s1 => fmark s1 fun m1 => fall seed idx n (Nat.succ i) (allB (fun i b => markH (secretH seed (idx : Int) (i : Int) (b : Int))) i ++ m0.l ++ m1.l) k) = _
    rw [fsecret_eq, fmark_eq, fsecret_eq, fmark_eq]
    rw [show i + (n + 1) = (i + 1) + n by omega]
    exact fall_eq seed idx k n (i + 1)
noncomputable def fpub {α : Type} (seed : H8) (idx : Nat) (k : H8 → α) : α := fall seed idx 16 0 [] fun l => fdig 107 [l] k
theorem fpub_eq {α : Type} (seed : H8) (idx : Nat) (k : H8 → α) : fpub seed idx k = k (pubS seed idx) := by
  have := fall_eq seed idx (fun l => fdig 107 [l] k) 16 0
  rw [fpub]
  refine this.trans ?_
  rw [fdig_eq]
  rfl
noncomputable def ftree {α : Type} (seed : H8) (k : H8 → α) : α :=
  fpub seed 0 fun p0 => fpub seed 1 fun p1 => fpub seed 2 fun p2 => fpub seed 3 fun p3 => fpub seed 4 fun p4 => fpub seed 5 fun p5 => fpub seed 6 fun p6 => fpub seed 7 fun p7 =>
  fdig 108 [p0.l] fun l0 => fdig 108 [p1.l] fun l1 => fdig 108 [p2.l] fun l2 => fdig 108 [p3.l] fun l3 => fdig 108 [p4.l] fun l4 => fdig 108 [p5.l] fun l5 => fdig 108 [p6.l] fun l6 => fdig 108 [p7.l] fun l7 =>
  fdig 109 [l0.l, l1.l] fun a => fdig 109 [l2.l, l3.l] fun b => fdig 109 [l4.l, l5.l] fun c => fdig 109 [l6.l, l7.l] fun d => fdig 109 [a.l, b.l] fun x => fdig 109 [c.l, d.l] fun y => fdig 109 [x.l, y.l] k
theorem ftree_eq {α : Type} (seed : H8) (k : H8 → α) : ftree seed k = k (treeH seed) := by
  rw [ftree]
  simp only [fpub_eq, fdig_eq]
  refine congrArg k ?_
  have h8 : halfN 8 = 4 := rfl
  have h4 : halfN 4 = 2 := rfl
  have h2 : halfN 2 = 1 := rfl
  rw [treeH, rootN_step (n := 8) (by decide), h8, rootN_step (n := 4) (by decide), h4, rootN_step (n := 2) (by decide), h2]
  simp only [show 8 - 4 = 4 from rfl, show 4 - 2 = 2 from rfl, show 2 - 1 = 1 from rfl]
  rw [rootN_step (n := 4) (by decide), h4]
  simp only [show 4 - 2 = 2 from rfl, rootN_step (n := 2) (by decide), h2, show 2 - 1 = 1 from rfl]
  rfl
end Go.Proofs.YtnpkdoggfnlapaaGreatDoor
namespace Go.Proofs.YtnpkdoggfnlapaaGreatDoor
set_option maxRecDepth 100000
open Go.Sx
def isH (c h : H8) : Bool := Nat.beq h.b0.toNat c.b0.toNat && (Nat.beq h.b1.toNat c.b1.toNat && (Nat.beq h.b2.toNat c.b2.toNat && (Nat.beq h.b3.toNat c.b3.toNat && (Nat.beq h.b4.toNat c.b4.toNat && (Nat.beq h.b5.toNat c.b5.toNat && (Nat.beq h.b6.toNat c.b6.toNat && Nat.beq h.b7.toNat c.b7.toNat))))))
theorem of_isH {c h : H8} (e : isH c h = true) : h = c := by
  obtain ⟨a0, a1, a2, a3, a4, a5, a6, a7⟩ := h
  obtain ⟨c0, c1, c2, c3, c4, c5, c6, c7⟩ := c
  simp only [isH, Bool.and_eq_true, nbeq, decide_eq_true_eq, UInt8.toNat_inj] at e
  obtain ⟨rfl, rfl, rfl, rfl, rfl, rfl, rfl, rfl⟩ := e
  rfl
end Go.Proofs.YtnpkdoggfnlapaaGreatDoor
namespace Go.Proofs.YtnpkdoggfnlapaaGreatDoor
set_option maxRecDepth 100000
open Go.Sx
theorem qroot0_test : ftree ⟨113, 0, 0, 0, 0, 0, 0, 0⟩ (isH ⟨42, 27, 56, 72, 149, 84, 97, 106⟩) = true := by kernel_rfl
theorem qroot0 : treeH ⟨113, 0, 0, 0, 0, 0, 0, 0⟩ = ⟨42, 27, 56, 72, 149, 84, 97, 106⟩ := of_isH ((ftree_eq _ (isH ⟨42, 27, 56, 72, 149, 84, 97, 106⟩)).symm.trans qroot0_test)
theorem qroot1_test : ftree ⟨113, 1, 0, 0, 0, 0, 0, 0⟩ (isH ⟨198, 66, 121, 243, 225, 231, 225, 136⟩) = true := by kernel_rfl
theorem qroot1 : treeH ⟨113, 1, 0, 0, 0, 0, 0, 0⟩ = ⟨198, 66, 121, 243, 225, 231, 225, 136⟩ := of_isH ((ftree_eq _ (isH ⟨198, 66, 121, 243, 225, 231, 225, 136⟩)).symm.trans qroot1_test)
theorem qroot2_test : ftree ⟨113, 2, 0, 0, 0, 0, 0, 0⟩ (isH ⟨103, 242, 72, 14, 141, 212, 250, 235⟩) = true := by kernel_rfl
theorem qroot2 : treeH ⟨113, 2, 0, 0, 0, 0, 0, 0⟩ = ⟨103, 242, 72, 14, 141, 212, 250, 235⟩ := of_isH ((ftree_eq _ (isH ⟨103, 242, 72, 14, 141, 212, 250, 235⟩)).symm.trans qroot2_test)
end Go.Proofs.YtnpkdoggfnlapaaGreatDoor
namespace Go.Proofs.YtnpkdoggfnlapaaGreatDoor
set_option maxRecDepth 100000
open Go.Sx
theorem qseed0 : qseed (0 : Nat) = ⟨113, 0, 0, 0, 0, 0, 0, 0⟩ := rfl
theorem qseed1 : qseed (1 : Nat) = ⟨113, 1, 0, 0, 0, 0, 0, 0⟩ := rfl
theorem qseed2 : qseed (2 : Nat) = ⟨113, 2, 0, 0, 0, 0, 0, 0⟩ := rfl
theorem qkeys3 : qkeys 3 = [⟨42, 27, 56, 72, 149, 84, 97, 106⟩, ⟨198, 66, 121, 243, 225, 231, 225, 136⟩, ⟨103, 242, 72, 14, 141, 212, 250, 235⟩] := by
  rw [show (3 : Nat) = 2 + 1 from rfl, qkeys_succ, show (2 : Nat) = 1 + 1 from rfl, qkeys_succ, show (1 : Nat) = 0 + 1 from rfl, qkeys_succ]
  rw [qseed0, qroot0, show qseed ((0 + 1 : Nat) : Int) = _ from qseed1, qroot1, show qseed ((0 + 1 + 1 : Nat) : Int) = _ from qseed2, qroot2]
  rfl
def mp : ParM := madeP 3 2
theorem mp_ok : parB mp = true := by
  rw [mp, madeP, qkeys3]
  decide
theorem mp_len : mp.keys.length = 3 := qkeys_len 3
def sideA : SideM := sideOf mp 3
def sideN (m : Int) : SideM := fwdX sideA m
def fillL (money : List Int) (i : Nat) : List SideM := (List.range i).map fun k : Nat => sideN (money.getD k 0)
theorem fillL_len (money : List Int) (i : Nat) : (fillL money i).length = i := by simp [fillL]
theorem fillL_succ (money : List Int) (i : Nat) : (fillL money i ++ [sideA]).set i (fwdX ((fillL money i ++ [sideA]).getD i default) (money.getD i 0)) = fillL money (i + 1) := by
  have h1 : (fillL money i ++ [sideA]).getD i default = sideA := by
    rw [List.getD_eq_getElem?_getD, List.getElem?_append_right (by rw [fillL_len]; exact Nat.le_refl _), fillL_len, Nat.sub_self]; rfl
  have h2 : (fillL money i ++ [sideA]).set i (sideN (money.getD i 0)) = fillL money i ++ [sideN (money.getD i 0)] := by
    rw [List.set_append, fillL_len, if_neg (Nat.lt_irrefl i), Nat.sub_self]; rfl
  rw [h1]
  show (fillL money i ++ [sideA]).set i (sideN _) = _
  rw [h2, fillL, fillL, List.range_succ, List.map_append]; rfl
def fill14Pack (L : List SideM) : List Chunk := [.abs (pReg L), .abs (rReg L)]
def f14St (money : List Int) (i : Nat) (L : List SideM) : St :=
  ⟨[some (XV.sv (.slc 0 1 0 money.length)), none, none, none, some (XV.sv (.ptr 1 0 0 0)), some (XV.sv (.ptr 2 0 0 0)), some (XV.int .i64 i)] ++ List.replicate 39 none, [(0, .ro 1 money.length (intsF money)), (1, .abs (pReg L)), (2, .abs (rReg L))], 3⟩
set_option maxHeartbeats 4000000 in
theorem fill14_can (money : List Int) (hm : money.length ≤ 8) : Makes Tryz.prog 29 [.row 1 money.length (intsF money)] [] (.tup [.one (.inn 0 0), .one (.inn 0 1)]) (.abs (PackP (fill14Pack (fillL money money.length)))) := by
  refine Makes.of Tryz.T_ok Tryz.func29 rfl _ _ _ _ rfl rfl rfl rfl 19 (fun C hC => ?_)
  (replace hC : C.n0 = 1 := hC; change Tri _ _ _ ⟨_, _, 1⟩ _)
  (refine Tri.cut 2 Tryz.mixed Tryz.T_ok ?_; refine xZ ?_)
  (apply wP; exact (call_op rfl (entersB_of Tryz.func62 (by kernel_rfl)) rfl (regNew_spec)); refine xZ ?_)
  refine wD <| cutG <| Tri.ent (Reg.shuts0 rrS rrE 5 rfl) <| Tri.seq ?_
  (refine Tri.cut 1 Tryz.mixed Tryz.T_ok ?_; refine xZ ?_)
  refine wD <| cutG <| Tri.block ?_
  refine Tri.loop (α := { i : Nat // i ≤ money.length }) (fun i => f14St money i.1 (fillL money i.1)) (fun i => money.length - i.1) ⟨0, Nat.zero_le _⟩ ?_ ?_
  · unfold f14St
    ((try dsimp only); refine Ent.renC [0, 3, 5] hC ?_ ?_ <;> repeat' (first | exact trivial | exact rfl | exact ⟨_, rfl, rfl, rfl, Nat.le_refl _, fun _ _ => rfl⟩ | exact ⟨_, rfl, rfl, rfl, fun _ _ => rfl⟩ | exact ⟨_, rfl, rfl, rfl⟩ | exact ⟨_, rfl, rfl⟩ | refine ⟨_, rfl, rfl, rfl, by omega, fun k hk => ?_⟩ | refine ⟨?_, ?_⟩ | fail))
  rintro ⟨i, hi⟩
  dsimp only
  have hs := fillL_succ money i
  have hl := fillL_len money i
  obtain ⟨L, hL⟩ : ∃ L, fillL money i = L := ⟨_, rfl⟩
  rw [hL] at hs hl ⊢
  unfold f14St
  (refine Tri.cut 1 Tryz.mixed Tryz.T_ok ?_; refine xZ ?_)
  refine wC (fun h1 => ?_) (fun h1 => ?_)
  · (refine xG ?_)
    have h1' : i < money.length := xW
    have hw : IntKind.i64.wrap ((i : Int) + 1) = ((i + 1 : Nat) : Int) := xW
    have hLA : (L ++ [sideA]).length = i + 1 := by rw [List.length_append, hl]; rfl
    have hmk : mp.keys.length ≤ 1000000 := by rw [mp_len]; decide
    (refine wTd ?_ ?_; (first | refine decide_eq_true ?_ | rw [beq_iff_eq] | rw [bne_iff_ne]); exact xW; refine xG ?_)
    refine wD <| cutG <| Tri.seq <| Tri.block <| Tri.of Tryz.mixed Tryz.T_ok ?_
    (refine xB ?_)
    (apply wP; exact (call_op rfl (entersB_of Tryz.func64 (by kernel_rfl)) rfl ((made_can 3 (by decide) 2).at [] ⟨lend_plain rfl, lend_plain rfl, trivial⟩ trivial)); refine xZ ?_)
    (apply wP; exact (call_op rfl (entersB_of Tryz.func63 (by kernel_rfl)) rfl ((create_can L mp 3 hmk (by omega) mp_ok).at [16] rfl rfl rfl ⟨lend_par (p := mp) (lend_vecN (lo := 0) mp_len.symm rfl rfl (Nat.le_of_eq ((Nat.zero_add _).trans mp_len)) (fun i _ => by rw [Nat.zero_add]; rfl)), lend_plain rfl, trivial⟩ trivial)); refine xZ ?_)
    (apply wP; exact (call_op rfl (entersB_of Tryz.func64 (by kernel_rfl)) rfl ((made_can 3 (by decide) 2).at [] ⟨lend_plain rfl, lend_plain rfl, trivial⟩ trivial)); refine xZ ?_)
    (apply wP; exact (call_op rfl (entersB_of Tryz.func65 (by kernel_rfl)) rfl ((rcreate_can L mp 3 hmk (by omega) mp_ok).at [19] rfl rfl rfl ⟨lend_par (p := mp) (lend_vecN (lo := 0) mp_len.symm rfl rfl (Nat.le_of_eq ((Nat.zero_add _).trans mp_len)) (fun i _ => by rw [Nat.zero_add]; rfl)), lend_plain rfl, trivial⟩ trivial)); refine xZ ?_)
    (repeat (refine wN ?_ ?_; exact xW; refine xG ?_))
    simp only [Nat.zero_add, Int.toNat_natCast]
    (apply wP; exact (call_op rfl (entersB_of Tryz.func66 (by kernel_rfl)) rfl ((forward_in (L ++ [sideA]) i (by omega) 1 ⟨1, 0, 0, 0, 0, 0, 0, 0⟩ (money.getD i 0)).at [] rfl rfl rfl ⟨lend_plain rfl, trivial⟩ trivial)); refine xZ ?_)
    (apply wP; exact (call_op rfl (entersB_of Tryz.func67 (by kernel_rfl)) rfl ((rforward_in (L ++ [sideA]) i (by omega) 1 ⟨1, 0, 0, 0, 0, 0, 0, 0⟩ (money.getD i 0)).at [] rfl rfl rfl ⟨lend_plain rfl, trivial⟩ trivial)); refine xZ ?_)
    refine wD <| blockN <| cutG <| Tri.of Tryz.mixed Tryz.T_ok ?_
    (refine xB ?_)
    refine wD <| loopN ⟨⟨i + 1, h1'⟩, by dsimp only; omega, ?_⟩
    rw [hw]
    dsimp only
    rw [← hs]
    ((try dsimp only); refine Ent.renC [0, 1, 2] hC ?_ ?_ <;> repeat' (first | exact trivial | exact rfl | exact ⟨_, rfl, rfl, rfl, Nat.le_refl _, fun _ _ => rfl⟩ | exact ⟨_, rfl, rfl, rfl, fun _ _ => rfl⟩ | exact ⟨_, rfl, rfl, rfl⟩ | exact ⟨_, rfl, rfl⟩ | refine ⟨_, rfl, rfl, rfl, by omega, fun k hk => ?_⟩ | refine ⟨?_, ?_⟩ | fail))
  · (refine xG ?_)
    have h1' : i = money.length := xW
    subst h1'
    rw [hL]
    refine wD <| cutE <| loopX <| blockX <| cutG <| Tri.of Tryz.mixed Tryz.T_ok ?_
    (refine xB ?_)
    refine wD (Ends.made (.inr rfl) (Ent.pack [1, 2] (fill14Pack L) (by decide) rfl rfl (fun j i ch hi hj => ?_)) rfl (Nat.le_of_ble_eq_true rfl) rfl)
    rcases j with _ | _ | j
    · cases hi; cases hj; exact ⟨_, rfl, ChLe.refl _ rfl⟩
    · cases hi; cases hj; exact ⟨_, rfl, ChLe.refl _ rfl⟩
    · cases hi
end Go.Proofs.YtnpkdoggfnlapaaGreatDoor
namespace Go.Sx
variable {S : St}
end Go.Sx
namespace Go.Proofs.YtnpkdoggfnlapaaGreatDoor
set_option maxRecDepth 100000
open Go.Sx
end Go.Proofs.YtnpkdoggfnlapaaGreatDoor
namespace Go.Proofs.YtnpkdoggfnlapaaGreatDoor
set_option maxRecDepth 100000
open Go.Sx
theorem sideN_is {m : Int} (h1 : 1 ≤ m) (h2 : m ≤ 1000000000) : sideN m = { sideA with bal := m, fwd := m } := by
  have hr : roomI m = 1125899906842624 - m := wrap_id (by omega)
  have hok : fwdOKX sideA m = true := by
    have e1 : sideA.bal = 0 := rfl
    have e2 : sideA.fwd = 0 := rfl
    rw [fwdOKX, e1, e2, mayB, hr, decide_eq_false (show ¬ m < 1 by omega), decide_eq_true (show 0 ≤ m by omega), decide_eq_true (show m ≤ 1125899906842624 by omega), decide_eq_false (show ¬ 1125899906842624 - m < 0 by omega)]
    rfl
  have he : fwdE sideA m = 0 := by rw [fwdE, if_neg (by show ¬ false = true; decide), if_pos hok]
  have e1 : IntKind.i64.wrap (sideA.bal + m) = m := by rw [show sideA.bal = 0 from rfl, Int.zero_add]; exact wrap_id (by omega)
  have e2 : IntKind.i64.wrap (sideA.fwd + m) = m := by rw [show sideA.fwd = 0 from rfl, Int.zero_add]; exact wrap_id (by omega)
  rw [sideN, fwdX, if_pos he, e1, e2]
end Go.Proofs.YtnpkdoggfnlapaaGreatDoor
namespace Go.Proofs.YtnpkdoggfnlapaaGreatDoor
set_option maxRecDepth 100000
open Go.Sx
end Go.Proofs.YtnpkdoggfnlapaaGreatDoor
namespace Go.Proofs.YtnpkdoggfnlapaaGreatDoor
set_option maxRecDepth 100000
open Go.Sx
theorem join_ints {l : List Int} {a : Int} {f g : Nat → List Value} {n : Nat} (hn : n = l.length) (hf : ∀ i, i < l.length → f i = intsF l i) (hg : g 0 = [.int .i64 a]) {i : Nat} (hi : i < n + 1) : joinF f n g i = intsF (l ++ [a]) i := by
  subst hn
  by_cases h : i < l.length
  · have e : Nat.blt i l.length = true := by rw [nblt]; exact decide_eq_true h
    simp only [joinF, e, cond_true]
    rw [hf i h, intsF, intsF, List.getD_eq_getElem?_getD, List.getD_eq_getElem?_getD, List.getElem?_append_left h]
  · have e : Nat.blt i l.length = false := by rw [nblt]; exact decide_eq_false h
    obtain rfl : i = l.length := by omega
    simp only [joinF, e, cond_false]
    rw [Nat.sub_self, hg, intsF, List.getD_eq_getElem?_getD, List.getElem?_append_right (Nat.le_refl _), Nat.sub_self]; rfl
end Go.Proofs.YtnpkdoggfnlapaaGreatDoor
namespace Go.Proofs.YtnpkdoggfnlapaaGreatDoor
set_option maxRecDepth 100000
open Go.Sx
section
variable {C : Ctx} {slots : List (Option XV)} {mem : Mem} {nx : Nat}
end
theorem cut1_one {n : Int} : ∀ i, i < 1 → ((cutF [Value.int .i64 n] 1 (0 + i)).all fun v => v.oneCell') = true := fun i hi => by
  obtain rfl := Nat.lt_one_iff.1 hi
  rfl
end Go.Proofs.YtnpkdoggfnlapaaGreatDoor
namespace Go.Proofs.YtnpkdoggfnlapaaGreatDoor
set_option maxRecDepth 100000
open Go.Sx
def outAmts (l : List OutM) (i : Nat) : List Int := (l.take i).map fun o => o.amt.toInt
theorem outAmts_len {l : List OutM} {i : Nat} (hi : i ≤ l.length) : (outAmts l i).length = i := by rw [outAmts, List.length_map, List.length_take]; omega
theorem outAmts_succ {l : List OutM} {i : Nat} (hi : i < l.length) : outAmts l (i + 1) = outAmts l i ++ [(l.getD i default).amt.toInt] := by
  rw [outAmts, List.take_add_one, List.getElem?_eq_getElem hi, List.map_append, List.getD_eq_getElem?_getD, List.getElem?_eq_getElem hi]; rfl
def csSt (c : CertM) (i : Nat) : St :=
  ⟨[none, none, none, none, some (XV.sv (.slc 2 1 0 i)), none, none, none, some (XV.sv (.slc 0 9 0 c.outs.length)), some (XV.int .i64 c.outs.length), some (XV.int .i64 i)] ++ List.replicate 13 none,
   [(0, .ro 9 c.outs.length (outsF c.outs)), (2, .vec 3 1 i (intsF (outAmts c.outs i)))], 3⟩
set_option maxHeartbeats 4000000 in
theorem csum_can (c : CertM) (hl : c.outs.length ≤ 1000000) : Reads Tryz.prog 125 [.box c.ac] [] (sumX (outAmts c.outs c.outs.length)) := by
  have hsum := msum_can (outAmts c.outs c.outs.length) (by rw [outAmts_len (Nat.le_refl _)]; omega)
  rw [outAmts_len (Nat.le_refl _)] at hsum
  refine Reads.of Tryz.T_ok Tryz.func125 rfl _ _ _ rfl rfl (fun C hC => ?_)
  (replace hC : C.n0 = 2 := hC; change Tri _ _ _ ⟨_, _, 2⟩ _)
  (refine Tri.cut 2 Tryz.mixed Tryz.T_ok ?_; refine xZ ?_)
  refine wD <| cutG <| Tri.ent (Ent.nils (t := 4) rfl 3 1) <| Tri.seq ?_
  (refine Tri.cut 1 Tryz.mixed Tryz.T_ok ?_; refine xZ ?_)
  refine wD <| cutG <| Tri.block ?_
  refine Tri.loop (α := { i : Nat // i ≤ c.outs.length }) (fun i => csSt c i.1) (fun i => c.outs.length - i.1) ⟨0, Nat.zero_le _⟩ ?_ ?_
  · unfold csSt
    ((try dsimp only); refine Ent.renC [0, 1, 6] hC ?_ ?_ <;> repeat' (first | exact trivial | exact rfl | exact ⟨_, rfl, rfl, rfl, Nat.le_refl _, fun _ _ => rfl⟩ | exact ⟨_, rfl, rfl, rfl, fun _ _ => rfl⟩ | exact ⟨_, rfl, rfl, rfl⟩ | exact ⟨_, rfl, rfl⟩ | refine ⟨_, rfl, rfl, rfl, by omega, fun k hk => ?_⟩ | refine ⟨?_, ?_⟩ | fail))
    all_goals exact absurd ‹_ < 0› (Nat.not_lt_zero _)
  rintro ⟨i, hi⟩
  dsimp only
  unfold csSt
  (refine Tri.cut 2 Tryz.mixed Tryz.T_ok ?_; refine xZ ?_)
  refine wC (fun h1 => ?_) (fun h1 => ?_)
  · (refine xG ?_)
    have h1' : i < c.outs.length := xW
    have hw : IntKind.i64.wrap ((i : Int) + 1) = ((i + 1 : Nat) : Int) := xW
    have hal := outAmts_len (l := c.outs) hi
    refine wD <| cutG <| Tri.seq <| Tri.block <| Tri.of Tryz.mixed Tryz.T_ok ?_
    (refine xB ?_)
    (repeat (refine wN ?_ ?_; exact xW; refine xG ?_))
    simp only [Nat.zero_add, Int.toNat_natCast]
    (refine wP _ _ (append_op Tryz.T_ok rfl rfl rfl rfl rfl [2, 11] (old_vec rfl rfl (Nat.le_refl _) rfl) (new_vec (lo := 0) rfl rfl (Nat.le_of_eq (Nat.zero_add _)) rfl) rfl cut1_one (by simp only [maxLen]; omega) (by dsimp only; omega)) ?_; refine xZ ?_)
    refine wD <| blockN <| cutG <| Tri.of Tryz.mixed Tryz.T_ok ?_
    (refine xB ?_)
    refine wD <| loopN ⟨⟨i + 1, h1'⟩, by dsimp only; omega, ?_⟩
    rw [hw]
    dsimp only
    rw [outAmts_succ h1']
    ((try dsimp only); refine Ent.renC [0, 1, 12] hC ?_ ?_ <;> repeat' (first | exact trivial | exact rfl | exact ⟨_, rfl, rfl, rfl, Nat.le_refl _, fun _ _ => rfl⟩ | exact ⟨_, rfl, rfl, rfl, fun _ _ => rfl⟩ | exact ⟨_, rfl, rfl, rfl⟩ | exact ⟨_, rfl, rfl⟩ | refine ⟨_, rfl, rfl, rfl, by omega, fun k hk => ?_⟩ | refine ⟨?_, ?_⟩ | fail))
    all_goals exact join_ints hal.symm (fun _ _ => rfl) rfl ‹_ < i + 1›
  · (refine xG ?_)
    have h1' : i = c.outs.length := xW
    subst h1'
    refine wD <| cutE <| loopX <| blockX <| cutG <| Tri.of Tryz.mixed Tryz.T_ok ?_
    (refine xB ?_)
    (apply wP; exact (call_op rfl (entersB_of Tryz.func167 (by kernel_rfl)) rfl (hsum.at [2] ⟨lend_vecN (lo := 0) rfl rfl rfl (Nat.le_of_eq (Nat.zero_add _)) (fun i _ => by rw [Nat.zero_add]; rfl), trivial⟩ trivial)); refine xZ ?_)
    exact wD (Ends.plain (.inr rfl) rfl rfl)
end Go.Proofs.YtnpkdoggfnlapaaGreatDoor
namespace Go.Proofs.YtnpkdoggfnlapaaGreatDoor
set_option maxRecDepth 100000
open Go.Sx
def openX (x : SideM) (e h : Int) : Bool := timedB x && (withinB e 0 400 && (decide (endsX x e < h) && decide (h ≤ wr (endsX x e + x.par.win))))
set_option maxHeartbeats 4000000 in
theorem sopen_can (x : SideM) (e h : Int) : Reads Tryz.prog 163 [.box x.ac, .plain (.one (.raw (.int .i64 e))), .plain (.one (.raw (.int .i64 h)))] [] (XV.bool (openX x e h)) := by
  refine Reads.of Tryz.T_ok Tryz.func163 rfl _ _ _ rfl rfl (fun C hC => ?_)
  (replace hC : C.n0 = 6 := hC; change Tri _ _ _ ⟨_, _, 6⟩ _)
  have hn := ends_can x e
  have ht := timed_can x
  have hx : openX x e h = (timedB x && (withinB e 0 400 && (decide (endsX x e < h) && decide (h ≤ wr (endsX x e + x.par.win))))) := rfl
  rw [hx]
  obtain ⟨E, hE⟩ : ∃ E, endsX x e = E := ⟨_, rfl⟩
  obtain ⟨tb, htb⟩ : ∃ tb, timedB x = tb := ⟨_, rfl⟩
  rw [hE] at hn ⊢
  rw [htb] at ht ⊢
  refine Tri.of Tryz.mixed Tryz.T_ok ?_
  (refine xB ?_)
  (apply wP; exact (call_op rfl (entersB_of Tryz.func28 (by kernel_rfl)) rfl (hn.at [0, 1, 2, 3] ⟨lend_side (x := x) (lend_ro0 rfl rfl) (lend_ro0 rfl rfl) (lend_ro0 rfl rfl) (lend_ro0 rfl rfl), lend_plain rfl, trivial⟩ trivial)); refine xZ ?_)
  (apply wP; exact (call_op rfl (entersB_of Tryz.func60 (by kernel_rfl)) rfl (ht.at [0, 1, 2, 3] ⟨lend_side (x := x) (lend_ro0 rfl rfl) (lend_ro0 rfl rfl) (lend_ro0 rfl rfl) (lend_ro0 rfl rfl), trivial⟩ trivial)); refine xZ ?_)
  refine wC (fun h1 => ?_) (fun h1 => ?_)
  rotate_left
  · (refine xG ?_)
    exact wD (Ends.plain (.inr rfl) rfl (by rw [h1]; rfl))
  (refine xG ?_)
  (apply wP; exact (call_op rfl (entersB_of Tryz.func61 (by kernel_rfl)) rfl ((rwithin_can e 0 400).at [] ⟨lend_plain rfl, lend_plain rfl, lend_plain rfl, trivial⟩ trivial)); refine xZ ?_)
  refine wC (fun h2 => ?_) (fun h2 => ?_)
  rotate_left
  · (refine xG ?_)
    exact wD (Ends.plain (.inr rfl) rfl (by rw [h1, h2]; rfl))
  (refine xG ?_)
  refine wC (fun h3 => ?_) (fun h3 => ?_)
  rotate_left
  · (refine xG ?_)
    exact wD (Ends.plain (.inr rfl) rfl (by rw [h1, h2, h3]; rfl))
  (refine xG ?_)
  exact wD (Ends.plain (.inr rfl) rfl (by rw [h1, h2, h3]; rfl))
def fitsX (x : SideM) (c : CertM) (h : Int) (fin : H8) : Int :=
  if x.ceased = true then 14
  else if (!openX x c.ep h || decide (c.fin ≠ fin)) = true then 9
  else if (x.pend && decide (c.qual ≤ x.cert.qual)) = true then 10
  else if (!(sumM 0 (outAmts c.outs c.outs.length)).isSome || decide (x.bal < (sumM 0 (outAmts c.outs c.outs.length)).getD 0)) = true then 5
  else 0
set_option maxHeartbeats 8000000 in
theorem fits_can (x : SideM) (c : CertM) (h : Int) (fin : H8) (hl : c.outs.length ≤ 1000000) : Reads Tryz.prog 121 [.box x.ac, .box c.ac, .plain (.one (.raw (.int .i64 h))), .plain fin.x] [] (XV.int .i64 (fitsX x c h fin)) := by
  refine Reads.of Tryz.T_ok Tryz.func121 rfl _ _ _ rfl rfl (fun C hC => ?_)
  (replace hC : C.n0 = 8 := hC; change Tri _ _ _ ⟨_, _, 8⟩ _)
  have hsm := csum_can c hl
  have hop := sopen_can x c.ep h
  have hfx : fitsX x c h fin = if x.ceased = true then 14 else if (!openX x c.ep h || decide (c.fin ≠ fin)) = true then 9 else if (x.pend && decide (c.qual ≤ x.cert.qual)) = true then 10 else if (!(sumM 0 (outAmts c.outs c.outs.length)).isSome || decide (x.bal < (sumM 0 (outAmts c.outs c.outs.length)).getD 0)) = true then 5 else 0 := rfl
  rw [hfx]
  unfold sumX at hsm
  obtain ⟨n, hn⟩ : ∃ n, (sumM 0 (outAmts c.outs c.outs.length)).getD 0 = n := ⟨_, rfl⟩
  obtain ⟨ok, hok⟩ : ∃ ok, (sumM 0 (outAmts c.outs c.outs.length)).isSome = ok := ⟨_, rfl⟩
  obtain ⟨ob, hob⟩ : ∃ ob, openX x c.ep h = ob := ⟨_, rfl⟩
  rw [hn, hok] at hsm ⊢
  rw [hob] at hop ⊢
  refine Tri.of Tryz.mixed Tryz.T_ok ?_
  (refine xB ?_)
  (apply wP; exact (call_op rfl (entersB_of Tryz.func125 (by kernel_rfl)) rfl (hsm.at [4, 5] ⟨lend_cert (c := c) (lend_ro0 rfl rfl) (lend_ro0 rfl rfl), trivial⟩ trivial)); refine xZ ?_)
  refine wC (fun h1 => ?_) (fun h1 => ?_)
  · (refine xG ?_)
    exact wD (Ends.plain (.inr rfl) rfl (by rw [if_pos h1]))
  (refine xG ?_)
  rw [if_neg (by rw [h1]; simp)]
  (apply wP; exact (call_op rfl (entersB_of Tryz.func163 (by kernel_rfl)) rfl (hop.at [0, 1, 2, 3] ⟨lend_side (x := x) (lend_ro0 rfl rfl) (lend_ro0 rfl rfl) (lend_ro0 rfl rfl) (lend_ro0 rfl rfl), lend_plain rfl, lend_plain rfl, trivial⟩ trivial)); refine xZ ?_)
  refine wC (fun h2 => ?_) (fun h2 => ?_)
  · (refine xG ?_)
    exact wD (Ends.plain (.inr rfl) rfl (by rw [if_pos (by rw [h2]; rfl)]))
  (refine xG ?_)
  (refine wP _ _ (neq_op hashE rfl c.fin fin rfl rfl) ?_; refine xZ ?_)
  refine wC (fun h3 => ?_) (fun h3 => ?_)
  · (refine xG ?_)
    exact wD (Ends.plain (.inr rfl) rfl (by rw [if_pos (by rw [h2, Bool.false_or]; simpa using h3)]))
  (refine xG ?_)
  rw [if_neg (by rw [h2, Bool.false_or]; simpa using h3)]
  refine wC (fun h4 => ?_) (fun h4 => ?_)
  · (refine xG ?_)
    refine wC (fun h5 => ?_) (fun h5 => ?_)
    · (refine xG ?_)
      exact wD (Ends.plain (.inr rfl) rfl (by rw [if_pos (by rw [h4, Bool.true_and]; exact h5)]))
    (refine xG ?_)
    rw [if_neg (by rw [h4, Bool.true_and, h5]; simp)]
    refine wC (fun h6 => ?_) (fun h6 => ?_)
    · (refine xG ?_)
      exact wD (Ends.plain (.inr rfl) rfl (by rw [if_pos (by rw [h6]; rfl)]))
    (refine xG ?_)
    refine wC (fun h7 => ?_) (fun h7 => ?_)
    · (refine xG ?_)
      exact wD (Ends.plain (.inr rfl) rfl (by rw [if_pos (by rw [h6, Bool.false_or]; exact h7)]))
    (refine xG ?_)
    exact wD (Ends.plain (.inr rfl) rfl (by rw [if_neg (by rw [h6, Bool.false_or, h7]; simp)]))
  (refine xG ?_)
  rw [if_neg (by rw [h4, Bool.false_and]; simp)]
  refine wC (fun h6 => ?_) (fun h6 => ?_)
  · (refine xG ?_)
    exact wD (Ends.plain (.inr rfl) rfl (by rw [if_pos (by rw [h6]; rfl)]))
  (refine xG ?_)
  refine wC (fun h7 => ?_) (fun h7 => ?_)
  · (refine xG ?_)
    exact wD (Ends.plain (.inr rfl) rfl (by rw [if_pos (by rw [h6, Bool.false_or]; exact h7)]))
  (refine xG ?_)
  exact wD (Ends.plain (.inr rfl) rfl (by rw [if_neg (by rw [h6, Bool.false_or, h7]; simp)]))
end Go.Proofs.YtnpkdoggfnlapaaGreatDoor
namespace Go.Proofs.YtnpkdoggfnlapaaGreatDoor
set_option maxRecDepth 100000
open Go.Sx
def SgdM.x (s : SgdM) : CV := .agg (s.cells.map .raw)
def rightB (p : ParM) (m : H8) (s : SgdM) : Bool := decide (0 ≤ s.key) && (decide (s.key < p.keys.length) && chkT (p.keys.getD s.key.toNat default) m s.sig)
set_option maxHeartbeats 8000000 in
theorem right_can (p : ParM) (m : H8) (s : SgdM) : Reads Tryz.prog 164 [.box p.ac, .plain m.x, .plain s.x] [stepsP] (XV.bool (rightB p m s)) := by
  refine Reads.of Tryz.T_ok Tryz.func164 rfl _ _ _ rfl rfl (fun C hC => ?_)
  (replace hC : C.n0 = 4 := hC; change Tri _ _ _ ⟨_, _, 4⟩ _)
  have hk := kcheck_can (p.keys.getD s.key.toNat default) m s.sig
  have hr : rightB p m s = (decide (0 ≤ s.key) && (decide (s.key < p.keys.length) && chkT (p.keys.getD s.key.toNat default) m s.sig)) := rfl
  rw [hr]
  obtain ⟨b, hb⟩ : ∃ b, chkT (p.keys.getD s.key.toNat default) m s.sig = b := ⟨_, rfl⟩
  rw [hb] at hk ⊢
  refine Tri.of Tryz.mixed Tryz.T_ok ?_
  (refine xB ?_)
  refine wC (fun h1 => ?_) (fun h1 => ?_)
  rotate_left
  · (refine xG ?_)
    exact wD (Ends.plain (.inr rfl) rfl (by rw [h1]; rfl))
  (refine xG ?_)
  refine wC (fun h2 => ?_) (fun h2 => ?_)
  rotate_left
  · (refine xG ?_)
    exact wD (Ends.plain (.inr rfl) rfl (by rw [h1, h2]; rfl))
  have h1' := of_decide_eq_true h1
  have h2' := of_decide_eq_true h2
  (refine xG ?_)
  refine wN ⟨h1', h2'⟩ ?_
  (refine xG ?_)
  simp only [Nat.zero_add]
  refine wN (show s.key.toNat < p.keys.length by omega) ?_
  (refine xG ?_)
  (apply wP; exact (call_op rfl (entersB_of Tryz.func197 (by kernel_rfl)) rfl (hk.at [3] ⟨lend_plain rfl, lend_plain rfl, lend_plain rfl, trivial⟩ ⟨lend_ext (c := 3) rfl rfl, trivial⟩)); refine xZ ?_)
  exact wD (Ends.plain (.inr rfl) rfl (by rw [h1, h2]; rfl))
def ordG (p : ParM) (m : H8) : Int → List SgdM → Bool
  | _, [] => true
  | last, s :: r => !(decide (s.key ≤ last)) && (rightB p m s && ordG p m s.key r)
def quorB (p : ParM) (m : H8) (l : List SgdM) : Bool := parB p && (!(decide ((l.length : Int) < p.need)) && ordG p m (-1) l)
def quSt (p : ParM) (m : H8) (l : List SgdM) (last : Int) (i : Nat) : St :=
  ⟨[none, none, none, some (XV.sv (.ptr 4 0 0 0)), some (XV.sv (.ptr 5 0 0 0)), none, none, some (XV.int .i64 last)] ++ List.replicate 12 none ++ [some (XV.sv (.slc 2 282 0 l.length)), some (XV.int .i64 l.length), some (XV.int .i64 i)] ++ List.replicate 17 none,
   [(0, .ro 8 p.keys.length (keysF p.keys)), (2, .ro 282 l.length (sgdsF l)), (3, .ext stepsP), (4, .cells 40 (boxC 0 p.ac)), (5, .cells 29 (m.cells.map .raw))], 6⟩
set_option maxHeartbeats 8000000 in
theorem quor_can (p : ParM) (m : H8) (l : List SgdM) (hp : p.keys.length ≤ 1000000000) (hl : l.length ≤ 1000000) : Reads Tryz.prog 122 [.box p.ac, .plain m.x, .row 282 l.length (sgdsF l)] [stepsP] (XV.bool (quorB p m l)) := by
  refine Reads.of Tryz.T_ok Tryz.func122 rfl _ _ _ rfl rfl (fun C hC => ?_)
  (replace hC : C.n0 = 4 := hC; change Tri _ _ _ ⟨_, _, 4⟩ _)
  have hq := qmay_can p hp
  have hx : quorB p m l = (parB p && (!(decide ((l.length : Int) < p.need)) && ordG p m (-1) l)) := rfl
  rw [hx]
  obtain ⟨pb, hpb⟩ : ∃ pb, parB p = pb := ⟨_, rfl⟩
  rw [hpb] at hq ⊢
  (refine Tri.cut 3 Tryz.mixed Tryz.T_ok ?_; refine xZ ?_)
  (apply wP; exact (call_op rfl (entersB_of Tryz.func116 (by kernel_rfl)) rfl (hq.at [0] ⟨lend_par (p := p) (lend_ro0 rfl rfl), trivial⟩ trivial)); refine xZ ?_)
  refine wC (fun h1 => ?_) (fun h1 => ?_)
  · have h1' : pb = false := by simpa using h1
    (refine xG ?_)
    exact wD <| cutR <| Ends.plain (.inr rfl) rfl (by rw [h1']; rfl)
  have h1' : pb = true := by simpa using h1
  (refine xG ?_)
  refine wC (fun h2 => ?_) (fun h2 => ?_)
  · (refine xG ?_)
    exact wD <| cutR <| Ends.plain (.inr rfl) rfl (by rw [h1', h2]; rfl)
  rw [h1', h2, Bool.true_and, Bool.not_false, Bool.true_and]
  (refine xG ?_)
  refine wD <| cutG <| Tri.seq ?_
  (refine Tri.cut 1 Tryz.mixed Tryz.T_ok ?_; refine xZ ?_)
  refine wD <| cutG <| Tri.block ?_
  refine Tri.loop (α := { x : Nat × Int // x.1 ≤ l.length ∧ ordG p m (-1) l = ordG p m x.2 (l.drop x.1) }) (fun x => quSt p m l x.1.2 x.1.1) (fun x => l.length - x.1.1) ⟨(0, -1), Nat.zero_le _, by rw [List.drop_zero]⟩ ?_ ?_
  · unfold quSt
    ((try dsimp only); refine Ent.renC [0, 1, 2, 3, 4, 5] hC ?_ ?_ <;> repeat' (first | exact trivial | exact rfl | exact ⟨_, rfl, rfl, rfl, Nat.le_refl _, fun _ _ => rfl⟩ | exact ⟨_, rfl, rfl, rfl, fun _ _ => rfl⟩ | exact ⟨_, rfl, rfl, rfl⟩ | exact ⟨_, rfl, rfl⟩ | refine ⟨_, rfl, rfl, rfl, by omega, fun k hk => ?_⟩ | refine ⟨?_, ?_⟩ | fail))
  rintro ⟨⟨i, last⟩, hi, hg⟩
  dsimp only at hi hg ⊢
  unfold quSt
  (refine Tri.cut 2 Tryz.mixed Tryz.T_ok ?_; refine xZ ?_)
  refine wC (fun h3 => ?_) (fun h3 => ?_)
  · (refine xG ?_)
    have h3' : i < l.length := xW
    have hw : IntKind.i64.wrap ((i : Int) + 1) = ((i + 1 : Nat) : Int) := xW
    rw [dropD_cons h3', ordG] at hg
    obtain ⟨s, hs⟩ : ∃ s, l.getD i default = s := ⟨_, rfl⟩
    rw [hs] at hg
    have hrt := right_can p m s
    obtain ⟨rb, hrb⟩ : ∃ rb, rightB p m s = rb := ⟨_, rfl⟩
    rw [hrb] at hrt hg
    refine wD <| cutG <| Tri.seq <| Tri.block <| Tri.of Tryz.mixed Tryz.T_ok ?_
    (refine xB ?_)
    (repeat (refine wN ?_ ?_; exact xW; refine xG ?_))
    simp only [Nat.zero_add, Int.toNat_natCast, hs]
    refine wC (fun h4 => ?_) (fun h4 => ?_)
    · rw [h4, Bool.not_true, Bool.false_and] at hg
      (refine xG ?_)
      exact wD <| blockR <| cutR <| loopR <| blockR <| cutR <| Ends.plain (.inr rfl) rfl (by rw [hg])
    rw [h4, Bool.not_false, Bool.true_and] at hg
    (refine xG ?_)
    (apply wP; exact (call_op rfl (entersB_of Tryz.func164 (by kernel_rfl)) rfl (hrt.at [0, 3] ⟨lend_par (p := p) (lend_ro0 rfl rfl), lend_plain rfl, lend_plain rfl, trivial⟩ ⟨lend_ext (c := 3) rfl rfl, trivial⟩)); refine xZ ?_)
    refine wC (fun h5 => ?_) (fun h5 => ?_)
    · have h5' : rb = false := by simpa using h5
      rw [h5', Bool.false_and] at hg
      (refine xG ?_)
      exact wD <| blockR <| cutR <| loopR <| blockR <| cutR <| Ends.plain (.inr rfl) rfl (by rw [hg])
    have h5' : rb = true := by simpa using h5
    rw [h5', Bool.true_and] at hg
    (refine xG ?_)
    refine wD <| blockN <| cutG <| Tri.of Tryz.mixed Tryz.T_ok ?_
    (refine xB ?_)
    refine wD <| loopN ⟨⟨(i + 1, s.key), h3', hg⟩, by dsimp only; omega, ?_⟩
    rw [hw]
    ((try dsimp only); refine Ent.renC [0, 1, 2, 3, 4, 5] hC ?_ ?_ <;> repeat' (first | exact trivial | exact rfl | exact ⟨_, rfl, rfl, rfl, Nat.le_refl _, fun _ _ => rfl⟩ | exact ⟨_, rfl, rfl, rfl, fun _ _ => rfl⟩ | exact ⟨_, rfl, rfl, rfl⟩ | exact ⟨_, rfl, rfl⟩ | refine ⟨_, rfl, rfl, rfl, by omega, fun k hk => ?_⟩ | refine ⟨?_, ?_⟩ | fail))
  · (refine xG ?_)
    have h3' : i = l.length := xW
    subst h3'
    rw [List.drop_length, ordG] at hg
    refine wD <| cutE <| loopX <| blockX <| cutG <| Tri.of Tryz.mixed Tryz.T_ok ?_
    (refine xB ?_)
    exact wD (Ends.plain (.inr rfl) rfl (by rw [hg]))
end Go.Proofs.YtnpkdoggfnlapaaGreatDoor
namespace Go.Proofs.YtnpkdoggfnlapaaGreatDoor
set_option maxRecDepth 100000
open Go.Sx
def certTx (c : CertM) : TxM := ⟨4, 0, [], [], [], par0, c, claim0⟩
theorem certTx_sized {c : CertM} (h1 : c.outs.length ≤ 1000000000) (h2 : c.sigs.length ≤ 1000000000) : Sized (certTx c) := ⟨Nat.zero_le _, Nat.zero_le _, Nat.zero_le _, Nat.zero_le _, h1, h2⟩
theorem certTx_bare (c : CertM) : emptyB (certTx c).bare4 = true := by
  show emptyB (⟨4, 0, [], [], [], par0, cert0, claim0⟩ : TxM) = true
  decide
theorem mayCert_can (c : CertM) (h1 : c.outs.length ≤ 1000000000) (h2 : c.sigs.length ≤ 1000000000) : Reads Tryz.prog 82 [.box (certTx c).ac] [] (XV.bool (certOK c)) := by
  have h := may4_can (certTx c) rfl (certTx_sized h1 h2) claim0_wf
  change Reads Tryz.prog _ _ _ (XV.bool (certOK c && (emptyB (certTx c).bare4 && claimZ claim0 claim0_wf))) at h
  rw [claimZ_zero, certTx_bare, Bool.and_true, Bool.and_true] at h
  exact h
def bareCert (c : CertM) : CertM := { c with sigs := [default] }
def certMsg (c : CertM) : H8 := if certOK (bareCert c) = true then dig 99 [certEnc (certTx (bareCert c))] else zeroH
set_option maxHeartbeats 4000000 in
theorem certMsg_can (c : CertM) (h1 : c.outs.length ≤ 1000000) : Reads Tryz.prog 120 [.box c.ac] [stepsP] (.tup [(certMsg c).x, .one (.raw (.bool (certOK (bareCert c))))]) := by
  have hm := mayCert_can (bareCert c) (by show c.outs.length ≤ _; omega) (by show 1 ≤ 1000000000; decide)
  refine Reads.of Tryz.T_ok Tryz.func120 rfl _ _ _ rfl rfl (fun C hC => ?_)
  (replace hC : C.n0 = 3 := hC; change Tri _ _ _ ⟨_, _, 3⟩ _)
  refine Tri.of Tryz.mixed Tryz.T_ok ?_
  (refine xB ?_)
  cases hb : certOK (bareCert c) with
  | false =>
    rw [hb] at hm
    have hd := digest_no 99 (t := certTx (bareCert c)) [] (enc_bad hm)
    have hc : certMsg c = zeroH := by rw [certMsg, if_neg (by rw [hb]; simp)]
    rw [hc]
    (apply wP; exact (call_op rfl (entersB_of Tryz.func98 (by kernel_rfl)) rfl (hd.at [0, 6, 2] ⟨lend_plain rfl, lend_tx (t := certTx (bareCert c)) (lend_nil _ _) (lend_nil _ _) (lend_nil _ _) (lend_nil _ _) (lend_ro0 rfl rfl) (lend_vecN (lo := 0) rfl rfl rfl (Nat.le_refl _) (fun i hi => by obtain rfl := Nat.lt_one_iff.1 hi; rfl)), lend_rows_nil _ _ _, trivial⟩ ⟨lend_ext (c := 2) rfl rfl, trivial⟩)); refine xZ ?_)
    exact wD (Ends.plain (.inr rfl) rfl rfl)
  | true =>
    rw [hb] at hm
    have he := enc4 (t := certTx (bareCert c)) rfl hb hm
    have hlen := certEnc_len (t := certTx (bareCert c)) hb
    have hd := digest_of 99 [] he (by decide) (short1 _ _ (by omega))
    have hc : certMsg c = dig 99 [certEnc (certTx (bareCert c))] := by rw [certMsg, if_pos hb]
    rw [hc]
    (apply wP; exact (call_op rfl (entersB_of Tryz.func98 (by kernel_rfl)) rfl (hd.at [0, 6, 2] ⟨lend_plain rfl, lend_tx (t := certTx (bareCert c)) (lend_nil _ _) (lend_nil _ _) (lend_nil _ _) (lend_nil _ _) (lend_ro0 rfl rfl) (lend_vecN (lo := 0) rfl rfl rfl (Nat.le_refl _) (fun i hi => by obtain rfl := Nat.lt_one_iff.1 hi; rfl)), lend_rows_nil _ _ _, trivial⟩ ⟨lend_ext (c := 2) rfl rfl, trivial⟩)); refine xZ ?_)
    exact wD (Ends.plain (.inr rfl) rfl rfl)
end Go.Proofs.YtnpkdoggfnlapaaGreatDoor
namespace Go.Proofs.YtnpkdoggfnlapaaGreatDoor
set_option maxRecDepth 100000
open Go.Sx
theorem certOK_parts {c : CertM} (h : certOK c = true) : c.sigs.all sgdOK = true ∧ ((0 ≤ c.side ∧ c.side ≤ 7) ∧ (0 ≤ c.ep ∧ c.ep ≤ 400) ∧ (0 ≤ c.qual ∧ c.qual ≤ 2147483647)) ∧ outsOK c.outs = true ∧ (1 ≤ (c.sigs.length : Int) ∧ (c.sigs.length : Int) ≤ 5) := by
  simp only [certOK, certN, withinB, Bool.and_eq_true, decide_eq_true_eq] at h
  exact h
theorem certOK_bare {c : CertM} (h : certOK c = true) : certOK (bareCert c) = true := by
  obtain ⟨-, h2, h3, -⟩ := certOK_parts h
  simp only [certOK, certN, withinB, Bool.and_eq_true, decide_eq_true_eq]
  refine ⟨?_, h2, h3, ?_, ?_⟩
  · show [default].all sgdOK = true
    decide
  · show (1 : Int) ≤ ((1 : Nat) : Int)
    decide
  · show ((1 : Nat) : Int) ≤ 5
    decide
def checkC (L : List SideM) (c : CertM) (h : Int) (fin : H8) : Int :=
  if certOK c = false then 4
  else if (L.length : Int) ≤ c.side then 8
  else if fitsX (L.getD c.side.toNat default) c h fin = 0 then (if quorB (L.getD c.side.toNat default).par (certMsg c) c.sigs = true then 0 else 11)
  else fitsX (L.getD c.side.toNat default) c h fin
def ckSt (L : List SideM) (c : CertM) (h : Int) (fin m : H8) (x : SideM) : St :=
  ⟨[some (XV.sv (.ptr 0 0 0 0)), none, some (XV.int .i64 h), none, none, some (XV.sv (.ptr 6 0 0 0)), none, some (XV.sv (.ptr 7 0 0 0)), none, some (XV.sv (.ptr 8 0 0 0)), some (XV.bool true), some (XV.sv (.ptr 9 0 0 0))] ++ List.replicate 42 none,
   [(0, .abs (pReg L)), (1, .ro 9 c.outs.length (outsF c.outs)), (2, .ro 282 c.sigs.length (sgdsF c.sigs)), (5, .ext stepsP), (6, .cells 43 (certCells c (.slc 1 9 0 c.outs.length) (.slc 2 282 0 c.sigs.length))), (7, .cells 29 (fin.cells.map .raw)), (8, .cells 29 (m.cells.map .raw)), (9, .cells 68 (sideSlc x 10 11 12 13)), (10, .vec 29 8 x.par.keys.length (keysF x.par.keys)), (11, .vec 59 9 x.cert.outs.length (outsF x.cert.outs)), (12, .vec 192 282 x.cert.sigs.length (sgdsF x.cert.sigs)), (13, .vec 3 1 x.used.length (intsF x.used))], 14⟩
set_option maxHeartbeats 8000000 in
theorem ccheck_can (L : List SideM) (c : CertM) (h : Int) (fin : H8) (hL : ∀ i, i < L.length → (L.getD i default).Sized) (hl : L.length ≤ 1000) (ho : c.outs.length ≤ 1000000) (hs : c.sigs.length ≤ 1000000) : Acts Tryz.prog 68 (.abs (pReg L)) (.abs (pReg L)) [.box c.ac, .plain (.one (.raw (.int .i64 h))), .plain fin.x] [stepsP] (XV.int .i64 (checkC L c h fin)) := by
  refine Acts.of Tryz.T_ok Tryz.func68 rfl _ _ _ _ _ rfl rfl rfl (fun C hC => ?_)
  (replace hC : C.n0 = 6 := hC; change Tri _ _ _ ⟨_, _, 6⟩ _)
  have hmay := mayCert_can c (by omega) (by omega)
  have hmsg := certMsg_can c ho
  obtain ⟨m, hm⟩ : ∃ m, certMsg c = m := ⟨_, rfl⟩
  have hchk : checkC L c h fin = if certOK c = false then 4 else if (L.length : Int) ≤ c.side then 8 else if fitsX (L.getD c.side.toNat default) c h fin = 0 then (if quorB (L.getD c.side.toNat default).par m c.sigs = true then 0 else 11) else fitsX (L.getD c.side.toNat default) c h fin := by rw [checkC, hm]
  rw [hm] at hmsg
  rw [hchk]
  cases hb : certOK c with
  | false =>
    rw [hb] at hmay
    rw [if_pos rfl]
    obtain ⟨ob, hob⟩ : ∃ ob, certOK (bareCert c) = ob := ⟨_, rfl⟩
    rw [hob] at hmsg
    cases ob with
    | false =>
      refine Tri.of Tryz.mixed Tryz.T_ok ?_
      (refine xB ?_)
      (apply wP; exact (call_op rfl (entersB_of Tryz.func120 (by kernel_rfl)) rfl (hmsg.at [1, 2, 5] ⟨lend_cert (c := c) (lend_ro0 rfl rfl) (lend_ro0 rfl rfl), trivial⟩ ⟨lend_ext (c := 5) rfl rfl, trivial⟩)); refine xZ ?_)
      exact wD (Ends.shutN (.inr rfl) (Ent.refl _) rfl rfl rfl)
    | true =>
      refine Tri.of Tryz.mixed Tryz.T_ok ?_
      (refine xB ?_)
      (apply wP; exact (call_op rfl (entersB_of Tryz.func120 (by kernel_rfl)) rfl (hmsg.at [1, 2, 5] ⟨lend_cert (c := c) (lend_ro0 rfl rfl) (lend_ro0 rfl rfl), trivial⟩ ⟨lend_ext (c := 5) rfl rfl, trivial⟩)); refine xZ ?_)
      (apply wP; exact (call_op rfl (entersB_of Tryz.func82 (by kernel_rfl)) rfl (hmay.at [1, 2] ⟨lend_tx (t := certTx c) (lend_nil _ _) (lend_nil _ _) (lend_nil _ _) (lend_nil _ _) (lend_ro0 rfl rfl) (lend_ro0 rfl rfl), trivial⟩ trivial)); refine xZ ?_)
      exact wD (Ends.shutN (.inr rfl) (Ent.refl _) rfl rfl rfl)
  | true =>
    obtain ⟨-, ⟨⟨s1, s2⟩, -, -⟩, -, -⟩ := certOK_parts hb
    rw [hb] at hmay
    rw [certOK_bare hb] at hmsg
    rw [if_neg (by simp)]
    (refine Tri.cut 3 Tryz.mixed Tryz.T_ok ?_; refine xZ ?_)
    (apply wP; exact (call_op rfl (entersB_of Tryz.func120 (by kernel_rfl)) rfl (hmsg.at [1, 2, 5] ⟨lend_cert (c := c) (lend_ro0 rfl rfl) (lend_ro0 rfl rfl), trivial⟩ ⟨lend_ext (c := 5) rfl rfl, trivial⟩)); refine xZ ?_)
    (apply wP; exact (call_op rfl (entersB_of Tryz.func82 (by kernel_rfl)) rfl (hmay.at [1, 2] ⟨lend_tx (t := certTx c) (lend_nil _ _) (lend_nil _ _) (lend_nil _ _) (lend_nil _ _) (lend_ro0 rfl rfl) (lend_ro0 rfl rfl), trivial⟩ trivial)); refine xZ ?_)
    refine wD <| cutG <| ?_
    by_cases h8 : (L.length : Int) ≤ c.side
    · rw [if_pos h8]
      have ho := side_out L c.side (by rw [inB, decide_eq_false (show ¬ c.side < (L.length : Int) by omega), Bool.and_false])
      refine Tri.of Tryz.mixed Tryz.T_ok ?_
      (refine xB ?_)
      (apply wP; exact (call_op rfl (entersB_of Tryz.func22 (by kernel_rfl)) rfl (ho.at1 [] rfl rfl rfl ⟨lend_plain rfl, trivial⟩ trivial)); refine xZ ?_)
      exact wD (Ends.shutN (.inr rfl) (Ent.refl _) rfl rfl rfl)
    rw [if_neg h8]
    have hi : c.side.toNat < L.length := by omega
    have hz := hL _ hi
    have hin := side_in L c.side.toNat hi hz
    rw [Int.toNat_of_nonneg s1] at hin
    generalize L.getD c.side.toNat default = x at hin hz ⊢
    (refine Tri.cut 1 Tryz.mixed Tryz.T_ok ?_; refine xZ ?_)
    (apply wP; exact (call_op rfl (entersB_of Tryz.func22 (by kernel_rfl)) rfl (hin.at1 [] rfl rfl rfl ⟨lend_plain rfl, trivial⟩ trivial)); refine xZ ?_)
    refine wD <| cutG <| ?_
    refine Tri.ent (Ent.unpack (c := 32) (l := sideRows x) rfl) <| Tri.ent (S' := ckSt L c h fin m x) ?_ ?_
    · unfold ckSt
      ((try dsimp only); refine Ent.renC [0, 1, 2, 3, 4, 5, 6, 7, 14, 36, 39, 40, 41, 42] hC ?_ ?_ <;> repeat' (first | exact trivial | exact rfl | exact ⟨_, rfl, rfl, rfl, Nat.le_refl _, fun _ _ => rfl⟩ | exact ⟨_, rfl, rfl, rfl, fun _ _ => rfl⟩ | exact ⟨_, rfl, rfl, rfl⟩ | exact ⟨_, rfl, rfl⟩ | refine ⟨_, rfl, rfl, rfl, by omega, fun k hk => ?_⟩ | refine ⟨?_, ?_⟩ | fail))
    unfold ckSt
    have hf := fits_can x c h fin ho
    have hq := quor_can x.par m c.sigs (by have := hz.keys; omega) hs
    obtain ⟨fx, hfx⟩ : ∃ fx, fitsX x c h fin = fx := ⟨_, rfl⟩
    obtain ⟨qb, hqb⟩ : ∃ qb, quorB x.par m c.sigs = qb := ⟨_, rfl⟩
    rw [hfx] at hf ⊢
    rw [hqb] at hq ⊢
    refine Tri.of Tryz.mixed Tryz.T_ok ?_
    (refine xB ?_)
    (apply wP; exact (call_op rfl (entersB_of Tryz.func121 (by kernel_rfl)) rfl (hf.at [10, 11, 12, 13, 1, 2] ⟨lend_side (x := x) (lend_vecN (lo := 0) rfl rfl rfl (Nat.le_of_eq (Nat.zero_add _)) (fun i _ => by rw [Nat.zero_add])) (lend_vecN (lo := 0) rfl rfl rfl (Nat.le_of_eq (Nat.zero_add _)) (fun i _ => by rw [Nat.zero_add])) (lend_vecN (lo := 0) rfl rfl rfl (Nat.le_of_eq (Nat.zero_add _)) (fun i _ => by rw [Nat.zero_add])) (lend_vecN (lo := 0) rfl rfl rfl (Nat.le_of_eq (Nat.zero_add _)) (fun i _ => by rw [Nat.zero_add])), lend_cert (c := c) (lend_ro0 rfl rfl) (lend_ro0 rfl rfl), lend_plain rfl, lend_plain rfl, trivial⟩ trivial)); refine xZ ?_)
    refine wC (fun h1 => ?_) (fun h1 => ?_)
    · have h1' : fx ≠ 0 := by simpa using h1
      rw [if_neg h1']
      (refine xG ?_)
      exact wD (Ends.shutN (.inr rfl) (Ent.refl _) rfl rfl rfl)
    have h1' : fx = 0 := by simpa using h1
    rw [if_pos h1']
    (refine xG ?_)
    (apply wP; exact (call_op rfl (entersB_of Tryz.func122 (by kernel_rfl)) rfl (hq.at [10, 2, 5] ⟨lend_par (p := x.par) (lend_vecN (lo := 0) rfl rfl rfl (Nat.le_of_eq (Nat.zero_add _)) (fun i _ => by rw [Nat.zero_add])), lend_plain rfl, lend_ro0 rfl rfl, trivial⟩ ⟨lend_ext (c := 5) rfl rfl, trivial⟩)); refine xZ ?_)
    refine wC (fun h2 => ?_) (fun h2 => ?_)
    · have h2' : qb = false := by simpa using h2
      rw [h2', if_neg (by simp)]
      (refine xG ?_)
      exact wD (Ends.shutN (.inr rfl) (Ent.refl _) rfl rfl rfl)
    have h2' : qb = true := by simpa using h2
    rw [h2', if_pos rfl]
    (refine xG ?_)
    exact wD (Ends.shutN (.inr rfl) (Ent.refl _) rfl rfl rfl)
end Go.Proofs.YtnpkdoggfnlapaaGreatDoor
namespace Go.Proofs.YtnpkdoggfnlapaaGreatDoor
set_option maxRecDepth 100000
open Go.Sx
def waitX (x : SideM) (c : CertM) : SideM := { x with pend := true, cert := c }
def takeC (L : List SideM) (c : CertM) (h : Int) (fin : H8) : List SideM × Int :=
  if checkC L c h fin = 0 then (L.set c.side.toNat (waitX (L.getD c.side.toNat default) c), 0) else (L, checkC L c h fin)
theorem checkC_zero {L : List SideM} {c : CertM} {h : Int} {fin : H8} (h0 : checkC L c h fin = 0) : certOK c = true ∧ ¬ (L.length : Int) ≤ c.side ∧ fitsX (L.getD c.side.toNat default) c h fin = 0 ∧ quorB (L.getD c.side.toNat default).par (certMsg c) c.sigs = true := by
  unfold checkC at h0
  by_cases h1 : certOK c = false
  · rw [if_pos h1] at h0; exact absurd h0 (by decide)
  rw [if_neg h1] at h0
  by_cases h2 : (L.length : Int) ≤ c.side
  · rw [if_pos h2] at h0; exact absurd h0 (by decide)
  rw [if_neg h2] at h0
  by_cases h3 : fitsX (L.getD c.side.toNat default) c h fin = 0
  · rw [if_pos h3] at h0
    by_cases h4 : quorB (L.getD c.side.toNat default).par (certMsg c) c.sigs = true
    · exact ⟨by simpa using h1, h2, h3, h4⟩
    · rw [if_neg h4] at h0; exact absurd h0 (by decide)
  · rw [if_neg h3] at h0; exact absurd h0 h3
def tkcSt (L : List SideM) (c : CertM) (x : SideM) : St :=
  ⟨[some (XV.sv (.ptr 0 0 0 0)), none, none, none, none, some (XV.sv (.ptr 6 0 0 0)), none, none, none, none, some (XV.sv (.ptr 7 0 0 0))] ++ List.replicate 24 none,
   [(0, .abs (pReg L)), (1, .ro 9 c.outs.length (outsF c.outs)), (2, .ro 282 c.sigs.length (sgdsF c.sigs)), (5, .ext stepsP), (6, .cells 43 (certCells c (.slc 1 9 0 c.outs.length) (.slc 2 282 0 c.sigs.length))), (7, .cells 68 (sideSlc x 8 9 10 11)), (8, .vec 29 8 x.par.keys.length (keysF x.par.keys)), (9, .vec 59 9 x.cert.outs.length (outsF x.cert.outs)), (10, .vec 192 282 x.cert.sigs.length (sgdsF x.cert.sigs)), (11, .vec 3 1 x.used.length (intsF x.used))], 12⟩
set_option maxHeartbeats 8000000 in
theorem ctake_can (L : List SideM) (c : CertM) (h : Int) (fin : H8) (hL : ∀ i, i < L.length → (L.getD i default).Sized) (hl : L.length ≤ 1000) (ho : c.outs.length ≤ 1000000) (hs : c.sigs.length ≤ 1000000) : Acts Tryz.prog 31 (.abs (pReg L)) (.abs (pReg (takeC L c h fin).1)) [.box c.ac, .plain (.one (.raw (.int .i64 h))), .plain fin.x] [stepsP] (XV.int .i64 (takeC L c h fin).2) := by
  refine Acts.of Tryz.T_ok Tryz.func31 rfl _ _ _ _ _ rfl rfl rfl (fun C hC => ?_)
  (replace hC : C.n0 = 6 := hC; change Tri _ _ _ ⟨_, _, 6⟩ _)
  have hchk := ccheck_can L c h fin hL hl ho hs
  obtain ⟨e, he⟩ : ∃ e, checkC L c h fin = e := ⟨_, rfl⟩
  have ht : takeC L c h fin = if e = 0 then (L.set c.side.toNat (waitX (L.getD c.side.toNat default) c), 0) else (L, e) := by rw [takeC, he]
  rw [ht]
  rw [he] at hchk
  (refine Tri.cut 3 Tryz.mixed Tryz.T_ok ?_; refine xZ ?_)
  (apply wP; exact (call_op rfl (entersB_of Tryz.func68 (by kernel_rfl)) rfl (hchk.at [1, 2, 5] rfl rfl rfl ⟨lend_cert (c := c) (lend_ro0 rfl rfl) (lend_ro0 rfl rfl), lend_plain rfl, lend_plain rfl, trivial⟩ ⟨lend_ext (c := 5) rfl rfl, trivial⟩)); refine xZ ?_)
  refine wC (fun h1 => ?_) (fun h1 => ?_)
  · have h1' : e ≠ 0 := by simpa using h1
    rw [if_neg h1']
    (refine xG ?_)
    exact wD <| cutR <| Ends.shutN (.inr rfl) (Ent.refl _) rfl rfl rfl
  have h1' : e = 0 := by simpa using h1
  subst h1'
  rw [if_pos rfl]
  obtain ⟨hb, h8, -, -⟩ := checkC_zero he
  obtain ⟨-, ⟨⟨s1, s2⟩, -, -⟩, -, -⟩ := certOK_parts hb
  have hi : c.side.toNat < L.length := by omega
  have hz := hL _ hi
  have hin := side_in L c.side.toNat hi hz
  have hset := regSet_can L c.side.toNat hi (waitX (L.getD c.side.toNat default) c)
  rw [Int.toNat_of_nonneg s1] at hin hset
  generalize L.getD c.side.toNat default = x at hin hz hset ⊢
  replace hset := hset ⟨hz.keys, ho, hs, hz.used⟩
  (refine xG ?_)
  (apply wP; exact (call_op rfl (entersB_of Tryz.func22 (by kernel_rfl)) rfl (hin.at1 [] rfl rfl rfl ⟨lend_plain rfl, trivial⟩ trivial)); refine xZ ?_)
  refine wD <| cutG <| Tri.ent (Ent.unpack (c := 20) (l := sideRows x) rfl) <| Tri.ent (S' := tkcSt L c x) ?_ ?_
  · unfold tkcSt
    ((try dsimp only); refine Ent.renC [0, 1, 2, 3, 4, 5, 6, 24, 27, 28, 29, 30] hC ?_ ?_ <;> repeat' (first | exact trivial | exact rfl | exact ⟨_, rfl, rfl, rfl, Nat.le_refl _, fun _ _ => rfl⟩ | exact ⟨_, rfl, rfl, rfl, fun _ _ => rfl⟩ | exact ⟨_, rfl, rfl, rfl⟩ | exact ⟨_, rfl, rfl⟩ | refine ⟨_, rfl, rfl, rfl, by omega, fun k hk => ?_⟩ | refine ⟨?_, ?_⟩ | fail))
  unfold tkcSt
  refine Tri.of Tryz.mixed Tryz.T_ok ?_
  (refine xB ?_)
  (apply wP; exact (call_op rfl (entersB_of Tryz.func49 (by kernel_rfl)) rfl (hset.at [8, 1, 2, 11] rfl rfl rfl ⟨lend_plain rfl, lend_side (x := waitX x c) (lend_vecN (lo := 0) rfl rfl rfl (Nat.le_of_eq (Nat.zero_add _)) (fun i _ => by rw [Nat.zero_add]; rfl)) (lend_ro0 rfl rfl) (lend_ro0 rfl rfl) (lend_vecN (lo := 0) rfl rfl rfl (Nat.le_of_eq (Nat.zero_add _)) (fun i _ => by rw [Nat.zero_add]; rfl)), trivial⟩ trivial)); refine xZ ?_)
  exact wD (Ends.shutN (.inr rfl) (Ent.refl _) rfl rfl rfl)
end Go.Proofs.YtnpkdoggfnlapaaGreatDoor
