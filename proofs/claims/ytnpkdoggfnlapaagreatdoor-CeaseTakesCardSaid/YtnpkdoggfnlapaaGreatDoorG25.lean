/- Parts Hq Hr Hs Hw Yr Ym Yt Za Zb Zc Zd Ra Rb Rc Rd Re Rf. -/
import Derived.Test.YtnpkdoggfnlapaaGreatDoorG24
import Derived.Test.YtnpkdoggfnlapaaGreatDoorG11
import Derived.Test.YtnpkdoggfnlapaaGreatDoorG23
import Derived.Test.YtnpkdoggfnlapaaGreatDoorG13
import Derived.Test.YtnpkdoggfnlapaaGreatDoorG20
set_option linter.unusedSimpArgs false
set_option linter.unusedVariables false
namespace Go.Proofs.YtnpkdoggfnlapaaGreatDoor
set_option maxRecDepth 100000
open Go.Sx
noncomputable def nrnd {α : Type} (K : Nat → Nat → Nat → Nat → Nat → Nat → Nat → Nat → α) (ks : List Nat) : Nat → Nat → Nat → Nat → Nat → Nat → Nat → Nat → Nat → Nat → Nat → Nat → Nat → Nat → Nat → Nat → Nat → Nat → Nat → Nat → Nat → Nat → Nat → Nat → α :=
  @List.rec Nat (fun _ => Nat → Nat → Nat → Nat → Nat → Nat → Nat → Nat → Nat → Nat → Nat → Nat → Nat → Nat → Nat → Nat → Nat → Nat → Nat → Nat → Nat → Nat → Nat → Nat → α)
    (fun a b c d e f g h _ _ _ _ _ _ _ _ _ _ _ _ _ _ _ _ => K a b c d e f g h)
    (fun k _ ih a b c d e f g h w0 w1 w2 w3 w4 w5 w6 w7 w8 w9 w10 w11 w12 w13 w14 w15 =>
      frc (nT e f g h k w0) fun t => frc (Nat.mod (Nat.add t (Nat.add (nS0 a) (nmaj a b c))) 4294967296) fun a' => frc (Nat.mod (Nat.add d t) 4294967296) fun e' =>
      frc (nmix w0 w1 w9 w14) fun w16 => ih a' a b c e' e f g w1 w2 w3 w4 w5 w6 w7 w8 w9 w10 w11 w12 w13 w14 w15 w16) ks
def ksN : List Nat := [1116352408, 1899447441, 3049323471, 3921009573, 961987163, 1508970993, 2453635748, 2870763221, 3624381080, 310598401, 607225278, 1426881987, 1925078388, 2162078206, 2614888103, 3248222580, 3835390401, 4022224774, 264347078, 604807628, 770255983, 1249150122, 1555081692, 1996064986, 2554220882, 2821834349, 2952996808, 3210313671, 3336571891, 3584528711, 113926993, 338241895, 666307205, 773529912, 1294757372, 1396182291, 1695183700, 1986661051, 2177026350, 2456956037, 2730485921, 2820302411, 3259730800, 3345764771, 3516065817, 3600352804, 4094571909, 275423344, 430227734, 506948616, 659060556, 883997877, 958139571, 1322822218, 1537002063, 1747873779, 1955562222, 2024104815, 2227730452, 2361852424, 2428436474, 2756734187, 3204031479, 3329325298]
noncomputable def nblocks {α : Type} (n : Nat) : List Nat → Nat → Nat → Nat → Nat → Nat → Nat → Nat → Nat → (Nat → Nat → α) → α :=
  @Nat.rec (fun _ => List Nat → Nat → Nat → Nat → Nat → Nat → Nat → Nat → Nat → (Nat → Nat → α) → α)
    (fun _ a b _ _ _ _ _ _ k => k a b)
    (fun _ ih l a b c d e f g h k =>
      frc (l.getD 0 0) fun w0 => frc (l.getD 1 0) fun w1 => frc (l.getD 2 0) fun w2 => frc (l.getD 3 0) fun w3 => frc (l.getD 4 0) fun w4 => frc (l.getD 5 0) fun w5 => frc (l.getD 6 0) fun w6 => frc (l.getD 7 0) fun w7 => frc (l.getD 8 0) fun w8 => frc (l.getD 9 0) fun w9 => frc (l.getD 10 0) fun w10 => frc (l.getD 11 0) fun w11 => frc (l.getD 12 0) fun w12 => frc (l.getD 13 0) fun w13 => frc (l.getD 14 0) fun w14 => frc (l.getD 15 0) fun w15 =>
      nrnd (fun a' b' c' d' e' f' g' h' => frc (nadd a a') fun a => frc (nadd b b') fun b => frc (nadd c c') fun c => frc (nadd d d') fun d => frc (nadd e e') fun e => frc (nadd f f') fun f => frc (nadd g g') fun g => frc (nadd h h') fun h => ih (l.drop 16) a b c d e f g h k)
        ksN a b c d e f g h w0 w1 w2 w3 w4 w5 w6 w7 w8 w9 w10 w11 w12 w13 w14 w15) n
theorem sched_val (b : Nat → UInt8) {n : Nat} : ∀ N, n < N → sched b N n = if n < 16 then word b n else mix (sched b n) n
  | 0, h => absurd h (Nat.not_lt_zero _)
  | N + 1, h => by
    rw [sched_step]
    by_cases e : n = N
    · subst e; rw [if_pos rfl]
    · rw [if_neg e]; exact sched_val b N (by omega)
theorem sched_same (b : Nat → UInt8) {n N N' : Nat} (h : n < N) (h' : n < N') : sched b N n = sched b N' n := by rw [sched_val b N h, sched_val b N' h']
theorem nmix_eq {w0 w1 w9 w14 : Nat} (h1 : B32 w1) (h14 : B32 w14) : w32 (w32 (w32 (w0 : Int) (w9 : Int)) (sg0 (w1 : Int))) (sg1 (w14 : Int)) = ((nmix w0 w1 w9 w14 : Nat) : Int) := by
  rw [sg0_nat h1, sg1_nat h14, w32_nat, w32_nat, w32_nat]
  congr 1
  show (((w0 + w9) % 4294967296 + ns0 w1) % 4294967296 + ns1 w14) % 4294967296 = (w0 + w9 + ns0 w1 + ns1 w14) % 4294967296
  omega
theorem sched_next (b : Nat → UInt8) {n w0 w1 w9 w14 : Nat} (hn : n + 16 < 64) (e0 : sched b 64 n = (w0 : Int)) (e1 : sched b 64 (n + 1) = (w1 : Int)) (e9 : sched b 64 (n + 9) = (w9 : Int)) (e14 : sched b 64 (n + 14) = (w14 : Int)) (h1 : B32 w1) (h14 : B32 w14) : sched b 64 (n + 16) = ((nmix w0 w1 w9 w14 : Nat) : Int) := by
  rw [sched_val b 64 hn, if_neg (by omega), mix, sched_same b (N' := 64) (n := n + 16 - 16) (by omega) (by omega), sched_same b (N' := 64) (n := n + 16 - 7) (by omega) (by omega), sched_same b (N' := 64) (n := n + 16 - 15) (by omega) (by omega), sched_same b (N' := 64) (n := n + 16 - 2) (by omega) (by omega),
    show n + 16 - 16 = n by omega, show n + 16 - 7 = n + 9 by omega, show n + 16 - 15 = n + 1 by omega, show n + 16 - 2 = n + 14 by omega, e0, e1, e9, e14, nmix_eq h1 h14]
theorem stepW_nat : ∀ n, n < 64 → stepW n = ((ksN.getD n 0 : Nat) : Int) := by decide
theorem ksN_drop {n : Nat} (h : n < 64) : ksN.drop n = ksN.getD n 0 :: ksN.drop (n + 1) := by
  have hl : ksN.length = 64 := rfl
  rw [List.drop_eq_getElem_cons (by omega), List.getD_eq_getElem?_getD, List.getElem?_eq_getElem (by omega)]; rfl
def WOk (b : Nat → UInt8) (n : Nat) (ws : Nat → Nat) : Prop := ∀ i, i < 16 → n + i < 64 → sched b 64 (n + i) = (ws i : Int) ∧ B32 (ws i)
theorem nrnd_eq {α : Type} (h0 : Nat → Int) (b : Nat → UInt8) (K : Nat → Nat → Nat → Nat → Nat → Nat → Nat → Nat → α) : ∀ m n, n + m = 64 → ∀ (a b' c d e f g h : Nat), R8 (stepsV h0 b n) a b' c d e f g h → ∀ ws, WOk b n ws →
    ∃ a2 b2 c2 d2 e2 f2 g2 h2, R8 (stepsV h0 b 64) a2 b2 c2 d2 e2 f2 g2 h2 ∧ nrnd K (ksN.drop n) a b' c d e f g h (ws 0) (ws 1) (ws 2) (ws 3) (ws 4) (ws 5) (ws 6) (ws 7) (ws 8) (ws 9) (ws 10) (ws 11) (ws 12) (ws 13) (ws 14) (ws 15) = K a2 b2 c2 d2 e2 f2 g2 h2
  | 0, n, hn, a, b', c, d, e, f, g, h, R, ws, W => by
    obtain rfl : n = 64 := by omega
    exact ⟨a, b', c, d, e, f, g, h, R, rfl⟩
  | m + 1, n, hn, a, b', c, d, e, f, g, h, R, ws, W => by
    rw [ksN_drop (by omega)]
    have hw := W 0 (by decide) (by omega)
    have hR := step_nat (k := ksN.getD n 0) (w := ws 0) R
    rw [← stepW_nat n (by omega), ← (show sched b 64 n = (ws 0 : Int) from hw.1)] at hR
    let ws' : Nat → Nat := fun i => if i < 15 then ws (i + 1) else nmix (ws 0) (ws 1) (ws 9) (ws 14)
    have hW : WOk b (n + 1) ws' := by
      intro i hi hni
      by_cases h15 : i < 15
      · have := W (i + 1) (by omega) (by omega)
        rw [show n + 1 + i = n + (i + 1) by omega]
        simp only [ws', if_pos h15]
        exact this
      · obtain rfl : i = 15 := by omega
        have q0 := W 0 (by decide) (by omega)
        have q1 := W 1 (by decide) (by omega)
        have q9 := W 9 (by decide) (by omega)
        have q14 := W 14 (by decide) (by omega)
        refine ⟨?_, mod_lt32 _⟩
        rw [show n + 1 + 15 = n + 16 by omega]
        exact sched_next b (by omega) q0.1 q1.1 q9.1 q14.1 q1.2 q14.2
    obtain ⟨a2, b2, c2, d2, e2, f2, g2, h2, R2, e2'⟩ := nrnd_eq h0 b K m (n + 1) (by omega) _ _ _ _ _ _ _ _ hR ws' hW
    refine ⟨a2, b2, c2, d2, e2, f2, g2, h2, R2, ?_⟩
    rw [← e2']
    show (frc (nT e f g h (ksN.getD n 0) (ws 0)) fun t => frc (Nat.mod (Nat.add t (Nat.add (nS0 a) (nmaj a b' c))) 4294967296) fun a' => frc (Nat.mod (Nat.add d t) 4294967296) fun e' =>
      frc (nmix (ws 0) (ws 1) (ws 9) (ws 14)) fun w16 => nrnd K (ksN.drop (n + 1)) a' a b' c e' e f g (ws 1) (ws 2) (ws 3) (ws 4) (ws 5) (ws 6) (ws 7) (ws 8) (ws 9) (ws 10) (ws 11) (ws 12) (ws 13) (ws 14) (ws 15) w16) = _
    rw [frc_eq, frc_eq, frc_eq, frc_eq]
    rfl
end Go.Proofs.YtnpkdoggfnlapaaGreatDoor
namespace Go.Proofs.YtnpkdoggfnlapaaGreatDoor
set_option maxRecDepth 100000
open Go.Sx
def w4v (a b c d : UInt8) : Nat := Nat.add (Nat.mul (Nat.add (Nat.mul (Nat.add (Nat.mul a.toNat 256) b.toNat) 256) c.toNat) 256) d.toNat
def w4 : List UInt8 → List Nat
  | a :: b :: c :: d :: r => w4v a b c d :: w4 r
  | _ => []
theorem w4_get : ∀ (i : Nat) (l : List UInt8), 4 * i + 3 < l.length → (w4 l).getD i 0 = w4v (l.getD (4 * i) 0) (l.getD (4 * i + 1) 0) (l.getD (4 * i + 2) 0) (l.getD (4 * i + 3) 0)
  | i, [], h => by simp at h
  | i, [_], h => by simp at h
  | i, [_, _], h => by simp only [List.length_cons, List.length_nil] at h; omega
  | i, [_, _, _], h => by simp only [List.length_cons, List.length_nil] at h; omega
  | 0, a :: b :: c :: d :: r, h => rfl
  | i + 1, a :: b :: c :: d :: r, h => by
    have := w4_get i r (by simp only [List.length_cons] at h; omega)
    show (w4 r).getD i 0 = _
    rw [this]
    rfl
theorem push_nat {w : Nat} (h : w < 16777216) (x : UInt8) : push (w : Int) x = ((Nat.add (Nat.mul w 256) x.toNat : Nat) : Int) := by
  have hx := x.toNat_lt
  have e1 : shlI .u32 (w : Int) 8 = ((Nat.mod (Nat.shiftLeft w 8) 4294967296 : Nat) : Int) := shl32_nat w 8 (by decide)
  have e2 : Nat.mod (Nat.shiftLeft w 8) 4294967296 = w <<< 8 := by
    show (w <<< 8) % 4294967296 = _
    rw [Nat.shiftLeft_eq]; omega
  have e3 : IntKind.u32.wrap (x.toNat : Int) = (x.toNat : Int) := by rw [IntKind.wrap_u32]; omega
  have b1 : B32 (w <<< 8) := by rw [Nat.shiftLeft_eq]; omega
  rw [push, e1, e2, e3, or_nat b1 (by omega)]
  congr 1
  show (w <<< 8) ||| x.toNat = w * 256 + x.toNat
  rw [← Nat.shiftLeft_add_eq_or_of_lt (by omega : x.toNat < 2 ^ 8), Nat.shiftLeft_eq]
theorem word_nat (b : Nat → UInt8) (i : Nat) : word b i = ((w4v (b (4 * i)) (b (4 * i + 1)) (b (4 * i + 2)) (b (4 * i + 3)) : Nat) : Int) ∧ B32 (w4v (b (4 * i)) (b (4 * i + 1)) (b (4 * i + 2)) (b (4 * i + 3))) := by
  have h0 := (b (4 * i)).toNat_lt
  have h1 := (b (4 * i + 1)).toNat_lt
  have h2 := (b (4 * i + 2)).toNat_lt
  have h3 := (b (4 * i + 3)).toNat_lt
  constructor
  · rw [word, show (0 : Int) = ((0 : Nat) : Int) from rfl, push_nat (by decide), push_nat, push_nat, push_nat]
    · show (((((0 * 256 + (b (4 * i)).toNat) * 256 + (b (4 * i + 1)).toNat) * 256 + (b (4 * i + 2)).toNat) * 256 + (b (4 * i + 3)).toNat : Nat) : Int) = _
      rw [Nat.zero_mul, Nat.zero_add]
      rfl
    · show ((0 * 256 + (b (4 * i)).toNat) * 256 + (b (4 * i + 1)).toNat) * 256 + (b (4 * i + 2)).toNat < _
      omega
    · show (0 * 256 + (b (4 * i)).toNat) * 256 + (b (4 * i + 1)).toNat < _
      omega
    · show 0 * 256 + (b (4 * i)).toNat < _
      omega
  · show (((b (4 * i)).toNat * 256 + (b (4 * i + 1)).toNat) * 256 + (b (4 * i + 2)).toNat) * 256 + (b (4 * i + 3)).toNat < _
    omega
theorem added_nat {h0 : Nat → Int} {b : Nat → UInt8} {a b' c d e f g h a2 b2 c2 d2 e2 f2 g2 h2 : Nat} (R : R8 h0 a b' c d e f g h) (R2 : R8 (stepsV h0 b 64) a2 b2 c2 d2 e2 f2 g2 h2) : R8 (blockW h0 b) (nadd a a2) (nadd b' b2) (nadd c c2) (nadd d d2) (nadd e e2) (nadd f f2) (nadd g g2) (nadd h h2) := by
  refine ⟨?_, ?_, ?_, ?_, ?_, ?_, ?_, ?_, mod_lt32 _, mod_lt32 _, mod_lt32 _, mod_lt32 _, mod_lt32 _, mod_lt32 _, mod_lt32 _, mod_lt32 _⟩
  · rw [blockW, R.h0, R2.h0, w32_nat]
  · rw [blockW, R.h1, R2.h1, w32_nat]
  · rw [blockW, R.h2, R2.h2, w32_nat]
  · rw [blockW, R.h3, R2.h3, w32_nat]
  · rw [blockW, R.h4, R2.h4, w32_nat]
  · rw [blockW, R.h5, R2.h5, w32_nat]
  · rw [blockW, R.h6, R2.h6, w32_nat]
  · rw [blockW, R.h7, R2.h7, w32_nat]
theorem getD_drop {E : Type} (l : List E) (n i : Nat) (d : E) : (l.drop n).getD i d = l.getD (n + i) d := by rw [List.getD_eq_getElem?_getD, List.getElem?_drop, ← List.getD_eq_getElem?_getD]
theorem nblocks_eq {α : Type} (l : List UInt8) (k : Nat → Nat → α) : ∀ m t, t + m = blocksN l → ∀ (a b c d e f g h : Nat), R8 (stateH l t) a b c d e f g h →
    ∃ x y : Nat, stateH l (blocksN l) 0 = (x : Int) ∧ stateH l (blocksN l) 1 = (y : Int) ∧ nblocks m ((w4 (padL l)).drop (16 * t)) a b c d e f g h k = k x y
  | 0, t, ht, a, b, c, d, e, f, g, h, R => by
    obtain rfl : t = blocksN l := by omega
    exact ⟨a, b, R.h0, R.h1, rfl⟩
  | m + 1, t, ht, a, b, c, d, e, f, g, h, R => by
    have hbl := blocks_eq l
    let ws : Nat → Nat := fun i => ((w4 (padL l)).drop (16 * t)).getD i 0
    have hW : WOk (blockAt l t) 0 ws := by
      intro i hi _
      have hg : ws i = w4v (blockAt l t (4 * i)) (blockAt l t (4 * i + 1)) (blockAt l t (4 * i + 2)) (blockAt l t (4 * i + 3)) := by
        show ((w4 (padL l)).drop (16 * t)).getD i 0 = _
        rw [getD_drop, w4_get _ _ (by omega)]
        simp only [blockAt, show 4 * (16 * t + i) = 64 * t + 4 * i by omega, Nat.add_assoc]
      have hw := word_nat (blockAt l t) i
      rw [hg, Nat.zero_add, sched_val _ 64 (by omega), if_pos hi]
      exact hw
    let K : Nat → Nat → Nat → Nat → Nat → Nat → Nat → Nat → α := fun a' b' c' d' e' f' g' h' => frc (nadd a a') fun a => frc (nadd b b') fun b => frc (nadd c c') fun c => frc (nadd d d') fun d => frc (nadd e e') fun e => frc (nadd f f') fun f => frc (nadd g g') fun g => frc (nadd h h') fun h => nblocks m (((w4 (padL l)).drop (16 * t)).drop 16) a b c d e f g h k
    obtain ⟨a2, b2, c2, d2, e2, f2, g2, h2, R2, hK⟩ := nrnd_eq (stateH l t) (blockAt l t) K 64 0 rfl a b c d e f g h R ws hW
    have hR : R8 (stateH l (t + 1)) _ _ _ _ _ _ _ _ := added_nat R R2
    obtain ⟨x, y, q1, q2, q3⟩ := nblocks_eq l k m (t + 1) (by omega) _ _ _ _ _ _ _ _ hR
    refine ⟨x, y, q1, q2, ?_⟩
    rw [← q3]
    have e1 : nblocks (m + 1) ((w4 (padL l)).drop (16 * t)) a b c d e f g h k = nrnd K (ksN.drop 0) a b c d e f g h (ws 0) (ws 1) (ws 2) (ws 3) (ws 4) (ws 5) (ws 6) (ws 7) (ws 8) (ws 9) (ws 10) (ws 11) (ws 12) (ws 13) (ws 14) (ws 15) := by
      show (frc (ws 0) fun w0 => frc (ws 1) fun w1 => frc (ws 2) fun w2 => frc (ws 3) fun w3 => frc (ws 4) fun w4 => frc (ws 5) fun w5 => frc (ws 6) fun w6 => frc (ws 7) fun w7 => frc (ws 8) fun w8 => frc (ws 9) fun w9 => frc (ws 10) fun w10 => frc (ws 11) fun w11 => frc (ws 12) fun w12 => frc (ws 13) fun w13 => frc (ws 14) fun w14 => frc (ws 15) fun w15 => nrnd K ksN a b c d e f g h w0 w1 w2 w3 w4 w5 w6 w7 w8 w9 w10 w11 w12 w13 w14 w15) = _
      simp only [frc_eq]
      rfl
    rw [e1, hK]
    show (frc (nadd a a2) fun a => frc (nadd b b2) fun b => frc (nadd c c2) fun c => frc (nadd d d2) fun d => frc (nadd e e2) fun e => frc (nadd f f2) fun f => frc (nadd g g2) fun g => frc (nadd h h2) fun h => nblocks m (((w4 (padL l)).drop (16 * t)).drop 16) a b c d e f g h k) = _
    simp only [frc_eq]
    rw [List.drop_drop, show 16 * t + 16 = 16 * (t + 1) by omega]
def h8of (x y : Nat) : H8 := ⟨UInt8.ofNat (Nat.shiftRight x 24), UInt8.ofNat (Nat.shiftRight x 16), UInt8.ofNat (Nat.shiftRight x 8), UInt8.ofNat x, UInt8.ofNat (Nat.shiftRight y 24), UInt8.ofNat (Nat.shiftRight y 16), UInt8.ofNat (Nat.shiftRight y 8), UInt8.ofNat y⟩
noncomputable def fsum {α : Type} (l : List UInt8) (k : H8 → α) : α := nblocks (blocksN l) (w4 (padL l)) 1779033703 3144134277 1013904242 2773480762 1359893119 2600822924 528734635 1541459225 fun x y => k (h8of x y)
noncomputable def fdig {α : Type} (p : UInt8) (bss : List (List UInt8)) (k : H8 → α) : α := fsum (encAll p bss) k
theorem byte_nat (x n : Nat) (hn : n ≤ 32) : byteI (IntKind.u8.wrap (shrI .u32 (x : Int) (n : Int))) = UInt8.ofNat (Nat.shiftRight x n) := by
  rw [shr32_nat x n hn, IntKind.wrap_u8, byteI]
  apply UInt8.toNat_inj.1
  rw [UInt8.toNat_ofNat', UInt8.toNat_ofNat']
  omega
theorem fdig_eq {α : Type} (p : UInt8) (bss : List (List UInt8)) (k : H8 → α) : fdig p bss k = k (dig p bss) := by
  have h0 : R8 (stateH (encAll p bss) 0) 1779033703 3144134277 1013904242 2773480762 1359893119 2600822924 528734635 1541459225 := by
    constructor <;> first | rfl | decide
  obtain ⟨x, y, hx, hy, hk⟩ := nblocks_eq (encAll p bss) (fun x y => k (h8of x y)) (blocksN (encAll p bss)) 0 (Nat.zero_add _) _ _ _ _ _ _ _ _ h0
  rw [fdig, fsum]
  refine hk.trans (congrArg k ?_)
  have b := byte_nat
  have s0 : ∀ z : Nat, Nat.shiftRight z 0 = z := fun _ => rfl
  have f : ∀ j : Nat, j < 8 → shaB (encAll p bss) j = UInt8.ofNat (Nat.shiftRight (if j < 4 then x else y) (24 - j % 4 * 8)) := by
    intro j hj
    rw [shaB]
    by_cases h4 : j < 4
    · rw [show j / 4 = 0 by omega, hx, if_pos h4, byte_nat _ _ (by omega)]
    · rw [show j / 4 = 1 by omega, hy, if_neg h4, byte_nat _ _ (by omega)]
  rw [dig, f 0 (by decide), f 1 (by decide), f 2 (by decide), f 3 (by decide), f 4 (by decide), f 5 (by decide), f 6 (by decide), f 7 (by decide)]
  rfl
end Go.Proofs.YtnpkdoggfnlapaaGreatDoor
namespace Go.Proofs.YtnpkdoggfnlapaaGreatDoor
set_option maxRecDepth 100000
open Go.Sx
noncomputable def fsecret {α : Type} (seed : H8) (idx i b : Nat) (k : H8 → α) : α := fdig 115 [seed.l, [byteI (IntKind.u8.wrap (idx : Int)), byteI (IntKind.u8.wrap (i : Int)), byteI (IntKind.u8.wrap (b : Int)), 0]] k
theorem fsecret_eq {α : Type} (seed : H8) (idx i b : Nat) (k : H8 → α) : fsecret seed idx i b k = k (secretH seed (idx : Int) (i : Int) (b : Int)) := fdig_eq _ _ _
noncomputable def fmark {α : Type} (h : H8) (k : H8 → α) : α := fdig 112 [h.l] k
theorem fmark_eq {α : Type} (h : H8) (k : H8 → α) : fmark h k = k (markH h) := fdig_eq _ _ _
noncomputable def fall {α : Type} (seed : H8) (idx : Nat) (n : Nat) : Nat → List UInt8 → (List UInt8 → α) → α :=
  @Nat.rec (fun _ => Nat → List UInt8 → (List UInt8 → α) → α) (fun _ acc k => k acc)
    (fun _ ih i acc k => fsecret seed idx i 0 fun s0 => fmark s0 fun m0 => fsecret seed idx i 1 fun s1 => fmark s1 fun m1 => ih (Nat.succ i) (acc ++ m0.l ++ m1.l) k) n
theorem fall_eq {α : Type} (seed : H8) (idx : Nat) (k : List UInt8 → α) : ∀ n i, fall seed idx n i (allB (fun i b => markH (secretH seed (idx : Int) (i : Int) (b : Int))) i) k = k (allB (fun i b => markH (secretH seed (idx : Int) (i : Int) (b : Int))) (i + n))
  | 0, i => rfl
  | n + 1, i => by
    show (fsecret seed idx i 0 fun s0 => fmark s0 fun m0 => fsecret seed idx i 1 fun s1 => fmark s1 fun m1 => fall seed idx n (Nat.succ i) (allB (fun i b => markH (secretH seed (idx : Int) (i : Int) (b : Int))) i ++ m0.l ++ m1.l) k) = _
    rw [fsecret_eq, fmark_eq, fsecret_eq, fmark_eq]
    rw [show i + (n + 1) = (i + 1) + n by omega]
    exact fall_eq seed idx k n (i + 1)
noncomputable def fpub {α : Type} (seed : H8) (idx : Nat) (k : H8 → α) : α := fall seed idx 16 0 [] fun l => fdig 107 [l] k
theorem fpub_eq {α : Type} (seed : H8) (idx : Nat) (k : H8 → α) : fpub seed idx k = k (pubS seed idx) := by
  have := fall_eq seed idx (fun l => fdig 107 [l] k) 16 0
  rw [fpub]
  refine this.trans ?_
  rw [fdig_eq]
  rfl
noncomputable def ftree {α : Type} (seed : H8) (k : H8 → α) : α :=
  fpub seed 0 fun p0 => fpub seed 1 fun p1 => fpub seed 2 fun p2 => fpub seed 3 fun p3 => fpub seed 4 fun p4 => fpub seed 5 fun p5 => fpub seed 6 fun p6 => fpub seed 7 fun p7 =>
  fdig 108 [p0.l] fun l0 => fdig 108 [p1.l] fun l1 => fdig 108 [p2.l] fun l2 => fdig 108 [p3.l] fun l3 => fdig 108 [p4.l] fun l4 => fdig 108 [p5.l] fun l5 => fdig 108 [p6.l] fun l6 => fdig 108 [p7.l] fun l7 =>
  fdig 109 [l0.l, l1.l] fun a => fdig 109 [l2.l, l3.l] fun b => fdig 109 [l4.l, l5.l] fun c => fdig 109 [l6.l, l7.l] fun d => fdig 109 [a.l, b.l] fun x => fdig 109 [c.l, d.l] fun y => fdig 109 [x.l, y.l] k
theorem ftree_eq {α : Type} (seed : H8) (k : H8 → α) : ftree seed k = k (treeH seed) := by
  rw [ftree]
  simp only [fpub_eq, fdig_eq]
  refine congrArg k ?_
  have h8 : halfN 8 = 4 := rfl
  have h4 : halfN 4 = 2 := rfl
  have h2 : halfN 2 = 1 := rfl
  rw [treeH, rootN_step (n := 8) (by decide), h8, rootN_step (n := 4) (by decide), h4, rootN_step (n := 2) (by decide), h2]
  simp only [show 8 - 4 = 4 from rfl, show 4 - 2 = 2 from rfl, show 2 - 1 = 1 from rfl]
  rw [rootN_step (n := 4) (by decide), h4]
  simp only [show 4 - 2 = 2 from rfl, rootN_step (n := 2) (by decide), h2, show 2 - 1 = 1 from rfl]
  rfl
end Go.Proofs.YtnpkdoggfnlapaaGreatDoor
namespace Go.Proofs.YtnpkdoggfnlapaaGreatDoor
set_option maxRecDepth 100000
open Go.Sx
def isH (c h : H8) : Bool := Nat.beq h.b0.toNat c.b0.toNat && (Nat.beq h.b1.toNat c.b1.toNat && (Nat.beq h.b2.toNat c.b2.toNat && (Nat.beq h.b3.toNat c.b3.toNat && (Nat.beq h.b4.toNat c.b4.toNat && (Nat.beq h.b5.toNat c.b5.toNat && (Nat.beq h.b6.toNat c.b6.toNat && Nat.beq h.b7.toNat c.b7.toNat))))))
theorem of_isH {c h : H8} (e : isH c h = true) : h = c := by
  obtain ⟨a0, a1, a2, a3, a4, a5, a6, a7⟩ := h
  obtain ⟨c0, c1, c2, c3, c4, c5, c6, c7⟩ := c
  simp only [isH, Bool.and_eq_true, nbeq, decide_eq_true_eq, UInt8.toNat_inj] at e
  obtain ⟨rfl, rfl, rfl, rfl, rfl, rfl, rfl, rfl⟩ := e
  rfl
end Go.Proofs.YtnpkdoggfnlapaaGreatDoor
namespace Go.Proofs.YtnpkdoggfnlapaaGreatDoor
set_option maxRecDepth 100000
open Go.Sx
theorem qroot0_test : ftree ⟨113, 0, 0, 0, 0, 0, 0, 0⟩ (isH ⟨42, 27, 56, 72, 149, 84, 97, 106⟩) = true := by kernel_rfl
theorem qroot0 : treeH ⟨113, 0, 0, 0, 0, 0, 0, 0⟩ = ⟨42, 27, 56, 72, 149, 84, 97, 106⟩ := of_isH ((ftree_eq _ (isH ⟨42, 27, 56, 72, 149, 84, 97, 106⟩)).symm.trans qroot0_test)
theorem qroot1_test : ftree ⟨113, 1, 0, 0, 0, 0, 0, 0⟩ (isH ⟨198, 66, 121, 243, 225, 231, 225, 136⟩) = true := by kernel_rfl
theorem qroot1 : treeH ⟨113, 1, 0, 0, 0, 0, 0, 0⟩ = ⟨198, 66, 121, 243, 225, 231, 225, 136⟩ := of_isH ((ftree_eq _ (isH ⟨198, 66, 121, 243, 225, 231, 225, 136⟩)).symm.trans qroot1_test)
theorem qroot2_test : ftree ⟨113, 2, 0, 0, 0, 0, 0, 0⟩ (isH ⟨103, 242, 72, 14, 141, 212, 250, 235⟩) = true := by kernel_rfl
theorem qroot2 : treeH ⟨113, 2, 0, 0, 0, 0, 0, 0⟩ = ⟨103, 242, 72, 14, 141, 212, 250, 235⟩ := of_isH ((ftree_eq _ (isH ⟨103, 242, 72, 14, 141, 212, 250, 235⟩)).symm.trans qroot2_test)
end Go.Proofs.YtnpkdoggfnlapaaGreatDoor
namespace Go.Proofs.YtnpkdoggfnlapaaGreatDoor
set_option maxRecDepth 100000
open Go.Sx
theorem qseed0 : qseed (0 : Nat) = ⟨113, 0, 0, 0, 0, 0, 0, 0⟩ := rfl
theorem qseed1 : qseed (1 : Nat) = ⟨113, 1, 0, 0, 0, 0, 0, 0⟩ := rfl
theorem qseed2 : qseed (2 : Nat) = ⟨113, 2, 0, 0, 0, 0, 0, 0⟩ := rfl
theorem qkeys3 : qkeys 3 = [⟨42, 27, 56, 72, 149, 84, 97, 106⟩, ⟨198, 66, 121, 243, 225, 231, 225, 136⟩, ⟨103, 242, 72, 14, 141, 212, 250, 235⟩] := by
  rw [show (3 : Nat) = 2 + 1 from rfl, qkeys_succ, show (2 : Nat) = 1 + 1 from rfl, qkeys_succ, show (1 : Nat) = 0 + 1 from rfl, qkeys_succ]
  rw [qseed0, qroot0, show qseed ((0 + 1 : Nat) : Int) = _ from qseed1, qroot1, show qseed ((0 + 1 + 1 : Nat) : Int) = _ from qseed2, qroot2]
  rfl
def mp : ParM := madeP 3 2
theorem mp_ok : parB mp = true := by
  rw [mp, madeP, qkeys3]
  decide
theorem mp_len : mp.keys.length = 3 := qkeys_len 3
def sideA : SideM := sideOf mp 3
def sideN (m : Int) : SideM := fwdX sideA m
def fillL (money : List Int) (i : Nat) : List SideM := (List.range i).map fun k : Nat => sideN (money.getD k 0)
theorem fillL_len (money : List Int) (i : Nat) : (fillL money i).length = i := by simp [fillL]
theorem fillL_succ (money : List Int) (i : Nat) : (fillL money i ++ [sideA]).set i (fwdX ((fillL money i ++ [sideA]).getD i default) (money.getD i 0)) = fillL money (i + 1) := by
  have h1 : (fillL money i ++ [sideA]).getD i default = sideA := by
    rw [List.getD_eq_getElem?_getD, List.getElem?_append_right (by rw [fillL_len]; exact Nat.le_refl _), fillL_len, Nat.sub_self]; rfl
  have h2 : (fillL money i ++ [sideA]).set i (sideN (money.getD i 0)) = fillL money i ++ [sideN (money.getD i 0)] := by
    rw [List.set_append, fillL_len, if_neg (Nat.lt_irrefl i), Nat.sub_self]; rfl
  rw [h1]
  show (fillL money i ++ [sideA]).set i (sideN _) = _
  rw [h2, fillL, fillL, List.range_succ, List.map_append]; rfl
def fill14Pack (L : List SideM) : List Chunk := [.abs (pReg L), .abs (rReg L)]
def f14St (money : List Int) (i : Nat) (L : List SideM) : St :=
  ⟨[some (XV.sv (.slc 0 1 0 money.length)), none, none, none, some (XV.sv (.ptr 1 0 0 0)), some (XV.sv (.ptr 2 0 0 0)), some (XV.int .i64 i)] ++ List.replicate 39 none, [(0, .ro 1 money.length (intsF money)), (1, .abs (pReg L)), (2, .abs (rReg L))], 3⟩
set_option maxHeartbeats 4000000 in
theorem fill14_can (money : List Int) (hm : money.length ≤ 8) : Makes Tryz.prog 29 [.row 1 money.length (intsF money)] [] (.tup [.one (.inn 0 0), .one (.inn 0 1)]) (.abs (PackP (fill14Pack (fillL money money.length)))) := by
  refine Makes.of Tryz.T_ok Tryz.func29 rfl _ _ _ _ rfl rfl rfl rfl 19 (fun C hC => ?_)
  (replace hC : C.n0 = 1 := hC; change Tri _ _ _ ⟨_, _, 1⟩ _)
  (refine Tri.cut 2 Tryz.mixed Tryz.T_ok ?_; refine xZ ?_)
  (apply wP; exact (call_op rfl (entersB_of Tryz.func62 (by kernel_rfl)) rfl (regNew_spec)); refine xZ ?_)
  refine wD <| cutG <| Tri.ent (Reg.shuts0 rrS rrE 5 rfl) <| Tri.seq ?_
  (refine Tri.cut 1 Tryz.mixed Tryz.T_ok ?_; refine xZ ?_)
  refine wD <| cutG <| Tri.block ?_
  refine Tri.loop (α := { i : Nat // i ≤ money.length }) (fun i => f14St money i.1 (fillL money i.1)) (fun i => money.length - i.1) ⟨0, Nat.zero_le _⟩ ?_ ?_
  · unfold f14St
    ((try dsimp only); refine Ent.renC [0, 3, 5] hC ?_ ?_ <;> repeat' (first | exact trivial | exact rfl | exact ⟨_, rfl, rfl, rfl, Nat.le_refl _, fun _ _ => rfl⟩ | exact ⟨_, rfl, rfl, rfl, fun _ _ => rfl⟩ | exact ⟨_, rfl, rfl, rfl⟩ | exact ⟨_, rfl, rfl⟩ | refine ⟨_, rfl, rfl, rfl, by omega, fun k hk => ?_⟩ | refine ⟨?_, ?_⟩ | fail))
  rintro ⟨i, hi⟩
  dsimp only
  have hs := fillL_succ money i
  have hl := fillL_len money i
  obtain ⟨L, hL⟩ : ∃ L, fillL money i = L := ⟨_, rfl⟩
  rw [hL] at hs hl ⊢
  unfold f14St
  (refine Tri.cut 1 Tryz.mixed Tryz.T_ok ?_; refine xZ ?_)
  refine wC (fun h1 => ?_) (fun h1 => ?_)
  · (refine xG ?_)
    have h1' : i < money.length := xW
    have hw : IntKind.i64.wrap ((i : Int) + 1) = ((i + 1 : Nat) : Int) := xW
    have hLA : (L ++ [sideA]).length = i + 1 := by rw [List.length_append, hl]; rfl
    have hmk : mp.keys.length ≤ 1000000 := by rw [mp_len]; decide
    (refine wTd ?_ ?_; (first | refine decide_eq_true ?_ | rw [beq_iff_eq] | rw [bne_iff_ne]); exact xW; refine xG ?_)
    refine wD <| cutG <| Tri.seq <| Tri.block <| Tri.of Tryz.mixed Tryz.T_ok ?_
    (refine xB ?_)
    (apply wP; exact (call_op rfl (entersB_of Tryz.func64 (by kernel_rfl)) rfl ((made_can 3 (by decide) 2).at [] ⟨lend_plain rfl, lend_plain rfl, trivial⟩ trivial)); refine xZ ?_)
    (apply wP; exact (call_op rfl (entersB_of Tryz.func63 (by kernel_rfl)) rfl ((create_can L mp 3 hmk (by omega) mp_ok).at [16] rfl rfl rfl ⟨lend_par (p := mp) (lend_vecN (lo := 0) mp_len.symm rfl rfl (Nat.le_of_eq ((Nat.zero_add _).trans mp_len)) (fun i _ => by rw [Nat.zero_add]; rfl)), lend_plain rfl, trivial⟩ trivial)); refine xZ ?_)
    (apply wP; exact (call_op rfl (entersB_of Tryz.func64 (by kernel_rfl)) rfl ((made_can 3 (by decide) 2).at [] ⟨lend_plain rfl, lend_plain rfl, trivial⟩ trivial)); refine xZ ?_)
    (apply wP; exact (call_op rfl (entersB_of Tryz.func65 (by kernel_rfl)) rfl ((rcreate_can L mp 3 hmk (by omega) mp_ok).at [19] rfl rfl rfl ⟨lend_par (p := mp) (lend_vecN (lo := 0) mp_len.symm rfl rfl (Nat.le_of_eq ((Nat.zero_add _).trans mp_len)) (fun i _ => by rw [Nat.zero_add]; rfl)), lend_plain rfl, trivial⟩ trivial)); refine xZ ?_)
    (repeat (refine wN ?_ ?_; exact xW; refine xG ?_))
    simp only [Nat.zero_add, Int.toNat_natCast]
    (apply wP; exact (call_op rfl (entersB_of Tryz.func66 (by kernel_rfl)) rfl ((forward_in (L ++ [sideA]) i (by omega) 1 ⟨1, 0, 0, 0, 0, 0, 0, 0⟩ (money.getD i 0)).at [] rfl rfl rfl ⟨lend_plain rfl, trivial⟩ trivial)); refine xZ ?_)
    (apply wP; exact (call_op rfl (entersB_of Tryz.func67 (by kernel_rfl)) rfl ((rforward_in (L ++ [sideA]) i (by omega) 1 ⟨1, 0, 0, 0, 0, 0, 0, 0⟩ (money.getD i 0)).at [] rfl rfl rfl ⟨lend_plain rfl, trivial⟩ trivial)); refine xZ ?_)
    refine wD <| blockN <| cutG <| Tri.of Tryz.mixed Tryz.T_ok ?_
    (refine xB ?_)
    refine wD <| loopN ⟨⟨i + 1, h1'⟩, by dsimp only; omega, ?_⟩
    rw [hw]
    dsimp only
    rw [← hs]
    ((try dsimp only); refine Ent.renC [0, 1, 2] hC ?_ ?_ <;> repeat' (first | exact trivial | exact rfl | exact ⟨_, rfl, rfl, rfl, Nat.le_refl _, fun _ _ => rfl⟩ | exact ⟨_, rfl, rfl, rfl, fun _ _ => rfl⟩ | exact ⟨_, rfl, rfl, rfl⟩ | exact ⟨_, rfl, rfl⟩ | refine ⟨_, rfl, rfl, rfl, by omega, fun k hk => ?_⟩ | refine ⟨?_, ?_⟩ | fail))
  · (refine xG ?_)
    have h1' : i = money.length := xW
    subst h1'
    rw [hL]
    refine wD <| cutE <| loopX <| blockX <| cutG <| Tri.of Tryz.mixed Tryz.T_ok ?_
    (refine xB ?_)
    refine wD (Ends.made (.inr rfl) (Ent.pack [1, 2] (fill14Pack L) (by decide) rfl rfl (fun j i ch hi hj => ?_)) rfl (Nat.le_of_ble_eq_true rfl) rfl)
    rcases j with _ | _ | j
    · cases hi; cases hj; exact ⟨_, rfl, ChLe.refl _ rfl⟩
    · cases hi; cases hj; exact ⟨_, rfl, ChLe.refl _ rfl⟩
    · cases hi
end Go.Proofs.YtnpkdoggfnlapaaGreatDoor
namespace Go.Sx
variable {S : St}
theorem new_empty {x : Operand} {b : Option Addr} {c : Nat} (hx : S.ev x = some (XV.val (.slice b 0 c))) (rd : List Nat) (sz : Nat) (g : Nat → List Value) : NewOp S x rd sz 0 g := by
  intro β ow w v h1 _
  have := h1 _ hx
  simp only [XV.rel, CV.rel, SV.rel] at this
  exact ⟨⟨b, c, this, fun h => absurd h (Nat.lt_irrefl 0)⟩, fun i hi => absurd hi (Nat.not_lt_zero i)⟩
end Go.Sx
namespace Go.Proofs.YtnpkdoggfnlapaaGreatDoor
set_option maxRecDepth 100000
open Go.Sx
def sideRaw (x : SideM) (g : Nat → Option Addr × Nat) : List SV := ((fillA 0 x.ac g).take 41).map .raw
set_option maxHeartbeats 4000000 in
theorem lawSide_can (x : SideM) (g : Nat → Option Addr × Nat) (hu : x.used = []) : Makes Tryz.prog 50 [.plain (.agg ((fillA 0 x.ac g).map .raw))] [] (.cv (.agg (sideRaw x g ++ [.slc 0 1 0 0]))) (.vec 3 1 0 (intsF [])) := by
  obtain ⟨par, made, bal, fwd, mat, clm, ceased, hgt, root, pend, cert, used⟩ := x
  dsimp only at hu
  subst hu
  refine Makes.of Tryz.T_ok Tryz.func50 rfl _ _ _ _ rfl rfl rfl rfl 27 (fun C hC => ?_)
  (replace hC : C.n0 = 1 := hC; change Tri _ _ _ ⟨_, _, 1⟩ _)
  refine Tri.of Tryz.mixed Tryz.T_ok ?_
  (refine xB ?_)
  (refine wP _ _ (append_op Tryz.T_ok rfl rfl rfl rfl rfl [] (old_nil rfl _ _ _ (fun _ => [])) (new_empty rfl _ _ (fun _ => [])) rfl (fun i hi => absurd hi (Nat.not_lt_zero i)) (by decide) (by decide)) ?_; refine xZ ?_)
  exact wD (Ends.made (.inr rfl) (Ent.chg0 (c := 27) (n := 0) (g := intsF []) rfl (fun i hi => absurd hi (Nat.not_lt_zero i))) rfl (Nat.le_of_ble_eq_true rfl) rfl)
def sideD (y : SideM) (c : Bool) (r : H8) : SideM := { y with ceased := c, root := r }
def sideC (a : AcsM) (money : Int) (ceased : Bool) : SideM := sideD (sideN money) ceased (rootA a)
theorem sideN_eq (m : Int) : (sideN m).par = mp ∧ (sideN m).cert = cert0 ∧ (sideN m).used = [] := by
  unfold sideN fwdX
  split <;> exact ⟨rfl, rfl, rfl⟩
theorem sideC_sized (a : AcsM) (money : Int) (ceased : Bool) : (sideC a money ceased).Sized := by
  obtain ⟨h1, h2, h3⟩ := sideN_eq money
  refine ⟨?_, ?_, ?_, ?_⟩
  · show (sideN money).par.keys.length ≤ _
    rw [h1, mp_len]; decide
  · show (sideN money).cert.outs.length ≤ _
    rw [h2]; decide
  · show (sideN money).cert.sigs.length ≤ _
    rw [h2]; decide
  · show (sideN money).used.length ≤ _
    rw [h3]; decide
def f16St (a : AcsM) (money : Int) (ceased : Bool) : St :=
  ⟨[none, none, some (XV.bool ceased), some (XV.sv (.ptr 4 0 0 0)), none, none, none, none, some (XV.sv (.ptr 5 0 0 0)), some (XV.sv (.ptr 6 0 0 0))] ++ List.replicate 41 none,
   acsM a ++ [(4, .cells 24 [.slc 0 1 0 a.pl.length, .slc 1 1 0 a.am.length]), (5, .abs (pReg [sideN money])), (6, .abs (rReg [sideN money]))], 7⟩
theorem fillL_one (m : Int) : fillL [m] 1 = [sideN m] := rfl
set_option maxHeartbeats 8000000 in
theorem fill16_can (a : AcsM) (hf : Fair a) (money : Int) (ceased : Bool) : Makes Tryz.prog 18 [.box a.ac, .plain (.one (.raw (.int .i64 money))), .plain (.one (.raw (.bool ceased)))] [] (.tup [.one (.inn 0 0), .one (.inn 0 1)]) (.abs (PackP (fill14Pack [sideC a money ceased]))) := by
  have f1 := hf.few
  have htl := treeN_len a a.pl.length
  have hfill := fill14_can [money] (Nat.le_of_ble_eq_true rfl)
  rw [show [money].length = 1 from rfl, fillL_one] at hfill
  refine Makes.of Tryz.T_ok Tryz.func18 rfl _ _ _ _ rfl rfl rfl rfl 51 (fun C hC => ?_)
  (replace hC : C.n0 = 4 := hC; change Tri _ _ _ ⟨_, _, 4⟩ _)
  (refine Tri.cut 2 Tryz.mixed Tryz.T_ok ?_; refine xZ ?_)
  (apply wP; exact (call_op rfl (entersB_of Tryz.func29 (by kernel_rfl)) rfl (hfill.at [8] ⟨lend_vecN (lo := 0) rfl rfl rfl (Nat.le_refl _) (lt1 rfl), trivial⟩ trivial)); refine xZ ?_)
  refine wD <| cutG <| Tri.ent (Ent.unpack (c := 9) (l := fill14Pack [sideN money]) rfl) <| Tri.ent (S' := f16St a money ceased) ?_ ?_
  · unfold f16St acsM
    ((try dsimp only); refine Ent.renC [0, 1, 2, 3, 4, 15, 16] hC ?_ ?_ <;> repeat' (first | exact trivial | exact rfl | exact ⟨_, rfl, rfl, rfl, Nat.le_refl _, fun _ _ => rfl⟩ | exact ⟨_, rfl, rfl, rfl, fun _ _ => rfl⟩ | exact ⟨_, rfl, rfl, rfl⟩ | exact ⟨_, rfl, rfl⟩ | refine ⟨_, rfl, rfl, rfl, by omega, fun k hk => ?_⟩ | refine ⟨?_, ?_⟩ | fail))
  unfold f16St acsM
  obtain ⟨y, hy⟩ : ∃ y, sideN money = y := ⟨_, rfl⟩
  obtain ⟨x, hx⟩ : ∃ x, sideC a money ceased = x := ⟨_, rfl⟩
  have hxy : x = sideD y ceased (rootA a) := by rw [← hx, ← hy]; rfl
  have hu : x.used = [] := by rw [← hx]; exact (sideN_eq money).2.2
  have hsz := sideC_sized a money ceased
  rw [hx] at hsz ⊢
  rw [hy]
  subst hxy
  clear hx hy hfill
  refine Reg.opens rrS rrE [y] 6 Nat.one_pos rfl (Nat.le_of_ble_eq_true rfl) (fun ad => Tri.of Tryz.mixed Tryz.T_ok ?_)
  (refine xB ?_)
  (refine wFd rfl ?_; refine xG ?_)
  refine wN ⟨Int.le_refl 0, (show (0 : Int) < 1 by decide)⟩ ?_
  (refine xG ?_)
  refine wN (show (0 : Nat) < 1 from Nat.one_pos) ?_
  (refine xG ?_)
  (apply wP; exact (call_op rfl (entersB_of Tryz.func46 (by kernel_rfl)) rfl ((tree16_can a hf).at [0, 1] ⟨lend_acs (lend_ro0 rfl rfl) (lend_ro0 rfl rfl), trivial⟩ trivial)); refine xZ ?_)
  (apply wP; exact (call_op rfl (entersB_of Tryz.func48 (by kernel_rfl)) rfl ((top_can (treeN a a.pl.length) (by omega) (treeN_placed a _)).at [] rfl rfl rfl trivial trivial)); refine xZ ?_)
  refine wN ⟨Int.le_refl 0, (show (0 : Int) < 1 by decide)⟩ ?_
  (refine xG ?_)
  refine wN (show (0 : Nat) < 1 from Nat.one_pos) ?_
  (refine xG ?_)
  (apply wP; exact (call_op rfl (entersB_of Tryz.func50 (by kernel_rfl)) rfl ((lawSide_can (sideD y ceased (rootA a)) (ad 0) hu).at [] ⟨lend_plain rfl, trivial⟩ trivial)); refine xZ ?_)
  (apply wP; exact (call_op rfl (entersB_of Tryz.func49 (by kernel_rfl)) rfl ((regSet_can [y] 0 Nat.one_pos (sideD y ceased (rootA a)) hsz).at [9, 45] rfl rfl rfl ⟨lend_plain rfl, lend_side (x := sideD y ceased (rootA a)) (lend_partO (q := 9) (F := regF [y]) (ad := ad) (i := 0) (j := 3) rfl rfl Nat.one_pos rfl) (lend_partO (q := 9) (F := regF [y]) (ad := ad) (i := 0) (j := 39) rfl rfl Nat.one_pos rfl) (lend_partO (q := 9) (F := regF [y]) (ad := ad) (i := 0) (j := 40) rfl rfl Nat.one_pos rfl) (lend_vecN (lo := 0) (by rw [hu]; rfl) rfl rfl (Nat.le_of_eq (by rw [hu]; rfl)) (fun i hi => absurd hi (by rw [hu]; exact Nat.not_lt_zero i))), trivial⟩ trivial)); refine xZ ?_)
  have e0 : ([y].set 0 (sideD y ceased (rootA a))) = [sideD y ceased (rootA a)] := rfl
  rw [e0]
  have hF : ∀ i, i < 1 → ∀ (j : Nat) (z : AC), (regF [sideD y ceased (rootA a)] i)[j]? = some z → (∃ u, z = AC.raw u) ∨ (regF [y] i)[j]? = some z := fun i hi j z hz => by
    obtain rfl : i = 0 := by omega
    exact side_rows (x := sideD y ceased (rootA a)) (y := y) rfl rfl rfl rfl hz
  refine wD (Ends.made (.inr rfl) ((Reg.shutsO rrS rrE [y] [sideD y ceased (rootA a)] 6 (i1 := 8) (q := 9) (ad := ad) Nat.one_pos rfl rfl rfl rfl rfl rfl (fun i hi => ?_) hF).trans (Ent.pack [5, 6] (fill14Pack [sideD y ceased (rootA a)]) (by decide) rfl rfl (fun j i ch hi hj => ?_))) rfl (Nat.le_of_ble_eq_true rfl) rfl)
  · obtain rfl : i = 0 := by have : i < 1 := hi; omega
    rfl
  · rcases j with _ | _ | j
    · cases hi; cases hj; exact ⟨_, rfl, ChLe.refl _ rfl⟩
    · cases hi; cases hj; exact ⟨_, rfl, ChLe.refl _ rfl⟩
    · cases hi
end Go.Proofs.YtnpkdoggfnlapaaGreatDoor
namespace Go.Proofs.YtnpkdoggfnlapaaGreatDoor
set_option maxRecDepth 100000
open Go.Sx
theorem sideN_is {m : Int} (h1 : 1 ≤ m) (h2 : m ≤ 1000000000) : sideN m = { sideA with bal := m, fwd := m } := by
  have hr : roomI m = 1125899906842624 - m := wrap_id (by omega)
  have hok : fwdOKX sideA m = true := by
    have e1 : sideA.bal = 0 := rfl
    have e2 : sideA.fwd = 0 := rfl
    rw [fwdOKX, e1, e2, mayB, hr, decide_eq_false (show ¬ m < 1 by omega), decide_eq_true (show 0 ≤ m by omega), decide_eq_true (show m ≤ 1125899906842624 by omega), decide_eq_false (show ¬ 1125899906842624 - m < 0 by omega)]
    rfl
  have he : fwdE sideA m = 0 := by rw [fwdE, if_neg (by show ¬ false = true; decide), if_pos hok]
  have e1 : IntKind.i64.wrap (sideA.bal + m) = m := by rw [show sideA.bal = 0 from rfl, Int.zero_add]; exact wrap_id (by omega)
  have e2 : IntKind.i64.wrap (sideA.fwd + m) = m := by rw [show sideA.fwd = 0 from rfl, Int.zero_add]; exact wrap_id (by omega)
  rw [sideN, fwdX, if_pos he, e1, e2]
structure StartX (a : AcsM) (m : Int) (c : Bool) (x : SideM) : Prop where
  bal : x.bal = m
  clm : x.clm = 0
  used : x.used = []
  ceased : x.ceased = c
  root : x.root = rootA a
  par : x.par = mp
  cert : x.cert = cert0
theorem start_is (a : AcsM) {m : Int} (c : Bool) (h1 : 1 ≤ m) (h2 : m ≤ 1000000000) : StartX a m c (sideC a m c) := by
  have h := sideN_is h1 h2
  refine ⟨?_, ?_, ?_, rfl, rfl, ?_, ?_⟩
  · show (sideN m).bal = m; rw [h]
  · show (sideN m).clm = 0; rw [h]; rfl
  · show (sideN m).used = []; rw [h]; rfl
  · show (sideN m).par = mp; rw [h]; rfl
  · show (sideN m).cert = cert0; rw [h]; rfl
theorem keep_start {a : AcsM} {m : Int} {c : Bool} {x : SideM} (h : StartX a m c x) (h1 : 1 ≤ m) : KeepI m x USet.empty :=
  ⟨by rw [h.bal, h.clm]; omega, by rw [h.bal]; omega, by rw [h.clm]; exact Int.le_refl 0, by rw [h.clm]; rfl, by rw [h.used]; rfl, by rw [h.used]; exact List.Pairwise.nil, List.nodup_nil⟩
structure Kept (x : SideM) (k : Nat) : Prop where
  par : x.par = mp
  cert : x.cert = cert0
  used : x.used.length ≤ k
theorem Kept.sized {x : SideM} {k : Nat} (h : Kept x k) (hk : k ≤ 1000000) : x.Sized := by
  refine ⟨?_, ?_, ?_, Nat.le_trans h.used hk⟩
  · rw [h.par, mp_len]; decide
  · rw [h.cert]; decide
  · rw [h.cert]; decide
theorem StartX.kept {a : AcsM} {m : Int} {c : Bool} {x : SideM} (h : StartX a m c x) : Kept x 0 := ⟨h.par, h.cert, by rw [h.used]; exact Nat.le_refl _⟩
theorem take_first {a : AcsM} {m : Int} {x : SideM} (h : StartX a m true x) (hf : Fair a) {k : Nat} (hk : k < a.pl.length) (hm : (accA a k).amt ≤ m) (hm2 : m ≤ 1000000) (H : Int64) :
    ∃ x' S', takeE [x] USet.empty (claimN a k) H = (([x'], S'), 0) ∧ x'.bal = m - (accA a k).amt ∧ x'.clm = (accA a k).amt ∧ S'.total = (accA a k).amt ∧ S'.steps.length ≤ 1 ∧ Kept x' 1 ∧ Rising x'.used ∧ ∀ H', takeE [x'] S' (claimN a k) H' = (([x'], S'), 13) := by
  have h1 := claimN_ok (a := a) hk
  have h2 := claimN_side (a := a) hk
  have e2 := claimN_st (a := a) hk
  have ham := accA_amt a k
  have h3 : checkX x (claimN a k) = 0 := checkX_good h.ceased (by rw [h.used]; simp) (by rw [h.root]; exact claimN_proof hf hk) (by rw [e2, h.bal]; exact hm)
  have h4 : USet.empty.has (ptAt (claimID (claimN a k)) 0) = false := rfl
  have h64 : (Int64.ofInt (claimN a k).st.amt).toInt = (claimN a k).st.amt := amt64 h1
  have ht : USet.empty.total = 0 := rfl
  have h5 : USet.empty.okB (ptAt (claimID (claimN a k)) 0) ⟨(claimN a k).st.owner, Int64.ofInt (claimN a k).st.amt, H, false⟩ = true := okB_of h4 rfl (by show 1 ≤ (Int64.ofInt (claimN a k).st.amt).toInt; rw [h64, e2]; exact ham.1) (by rw [ht]; exact Int.le_refl 0) (by show USet.empty.total + (Int64.ofInt (claimN a k).st.amt).toInt ≤ _; rw [ht, h64, e2]; omega)
  have hp := (keep_start h (by omega)).paid (by omega) h1 h3 (k := ⟨(claimN a k).st.owner, Int64.ofInt (claimN a k).st.amt, H, false⟩) h4 h64
  refine ⟨_, _, take_paid h1 h2 h3 h4 h5, ?_, ?_, ?_, ?_, ⟨h.par, h.cert, ?_⟩, hp.1.up, fun H' => take_bad ?_ (by decide)⟩
  · rw [hp.2.1, h.bal, e2]
  · rw [hp.2.2, h.clm, e2, Int.zero_add]
  · rw [hp.1.tot, hp.2.2, h.clm, e2, Int.zero_add]
  · exact Nat.le_refl _
  · show (insU x.used _).length ≤ 1
    rw [insU_len, h.used]; exact Nat.le_refl _
  · rw [checkE_one h1 h2, checkX, if_neg (by show ¬ x.ceased = false; rw [h.ceased]; simp), if_pos (show (claimN a k).acct ∈ (takeX x (claimN a k)).used from mem_insU.2 (.inl rfl))]
def acs0 : AcsM := ⟨[5, 900], [3, 4]⟩
theorem acs0_fair : Fair acs0 := fair_of (by decide)
theorem acs0_amt : (accA acs0 1).amt = 5 := rfl
theorem awake_take : ∃ x' S', takeE [sideC acs0 20 true] USet.empty (claimN acs0 1) 30 = (([x'], S'), 0) ∧ x'.bal = 15 ∧ x'.clm = 5 ∧ S'.total = 5 ∧ S'.steps.length ≤ 1 ∧ Kept x' 1 ∧ Rising x'.used ∧ takeE [x'] S' (claimN acs0 1) 31 = (([x'], S'), 13) := by
  obtain ⟨x', S', h1, h2, h3, h4, h5, h6, h7, h8⟩ := take_first (start_is acs0 (m := 20) true (by decide) (by decide)) acs0_fair (k := 1) (by decide) (by rw [acs0_amt]; decide) (by decide) 30
  rw [acs0_amt] at h2 h3 h4
  exact ⟨x', S', h1, h2, h3, h4, h5, h6, h7, h8 31⟩
end Go.Proofs.YtnpkdoggfnlapaaGreatDoor
namespace Go.Proofs.YtnpkdoggfnlapaaGreatDoor
set_option maxRecDepth 100000
open Go.Sx
theorem take1_can (x : SideM) (S : USet) (c : ClaimM) (h : Int64) (hx : x.Sized) (hS : S.steps.length < 900000) (hr : Rising x.used) (hu : x.used.length < 900000) {x' : SideM} {S' : USet} {e : Int} (ht : takeE [x] S c h = (([x'], S'), e)) :
    Does Tryz.prog 20 [(.abs (pReg [x]), .abs (pReg [x'])), (.abs (usetP S), .abs (usetP S'))] [.box (claimTx c).ac, .plain (.one (.raw (.int .i64 h.toInt)))] [stepsP] (XV.int .i64 e) none := by
  have h1 := take_can [x] S c h (fun i hi => ?_) (by show 1 ≤ 1000; decide) hS (fun i hi => ?_)
  · rw [ht] at h1; exact h1
  · obtain rfl : i = 0 := by have : i < 1 := hi; omega
    exact hx
  · obtain rfl : i = 0 := by have : i < 1 := hi; omega
    exact ⟨hr, hu⟩
def awSt (x : SideM) : St :=
  ⟨[none, some (XV.sv (.ptr 1 0 0 0)), some (XV.sv (.ptr 4 0 0 0)), none, some (XV.sv (.ptr 5 0 0 0))] ++ List.replicate 58 none,
   [(0, .ext stepsP), (1, .cells 24 [.slc 2 1 0 2, .slc 3 1 0 2]), (2, .vec 25 1 2 (cutF [.int .u16 5, .int .u16 900] 1)), (3, .vec 25 1 2 (cutF [.int .u16 3, .int .u16 4] 1)), (4, .abs (pReg [x])), (5, .abs (usetP USet.empty))], 6⟩
def awSt2 (x : SideM) (S : USet) : St :=
  ⟨[none, none, some (XV.sv (.ptr 1 0 0 0)), none, some (XV.sv (.ptr 2 0 0 0)), some (XV.int .i64 0), some (XV.int .i64 13)] ++ List.replicate 56 none, [(0, .ext stepsP), (1, .abs (pReg [x])), (2, .abs (usetP S))], 3⟩
theorem row2 {a b : UInt16} {g : Nat → List Value} (h0 : g 0 = [u16 a]) (h1 : g 1 = [u16 b]) : ∀ i, i < 2 → rowW [a, b] i = g (0 + i) := fun i hi => by
  rw [Nat.zero_add]
  match i, hi with
  | 0, _ => exact h0.symm
  | 1, _ => exact h1.symm
set_option maxHeartbeats 8000000 in
theorem awake16 : Reads Tryz.prog 13 [] [stepsP] (XV.bool true) := by
  obtain ⟨x', S', t1, t2, t3, t4, t5, t6, t7, t8⟩ := awake_take
  have hst := start_is acs0 (m := 20) true (by decide) (by decide)
  refine Reads.of Tryz.T_ok Tryz.func13 rfl _ _ _ rfl rfl (fun C hC => ?_)
  (replace hC : C.n0 = 1 := hC; change Tri _ _ _ ⟨_, _, 1⟩ _)
  (refine Tri.cut 4 Tryz.mixed Tryz.T_ok ?_; refine xZ ?_)
  (apply wP; exact (call_op rfl (entersB_of Tryz.func18 (by kernel_rfl)) rfl ((fill16_can acs0 acs0_fair 20 true).at [2, 3] ⟨lend_acs (a := acs0) (lend_vecN (lo := 0) rfl rfl rfl (Nat.le_refl _) (row2 rfl rfl)) (lend_vecN (lo := 0) rfl rfl rfl (Nat.le_refl _) (row2 rfl rfl)), lend_plain rfl, lend_plain rfl, trivial⟩ trivial)); refine xZ ?_)
  (apply wP; exact (call_op rfl (entersB_of Tryz.func19 (by kernel_rfl)) rfl (new_spec)); refine xZ ?_)
  obtain ⟨y, hy⟩ : ∃ y, sideC acs0 20 true = y := ⟨_, rfl⟩
  rw [hy] at hst t1 ⊢
  refine wD <| cutG <| Tri.ent (Ent.unpack (c := 8) (l := fill14Pack [y]) rfl) <| Tri.ent (S' := awSt y) ?_ ?_
  · unfold awSt
    ((try dsimp only); refine Ent.renC [0, 5, 2, 3, 16, 14] hC ?_ ?_ <;> repeat' (first | exact trivial | exact rfl | exact ⟨_, rfl, rfl, rfl, Nat.le_refl _, fun _ _ => rfl⟩ | exact ⟨_, rfl, rfl, rfl, fun _ _ => rfl⟩ | exact ⟨_, rfl, rfl, rfl⟩ | exact ⟨_, rfl, rfl⟩ | refine ⟨_, rfl, rfl, rfl, by omega, fun k hk => ?_⟩ | refine ⟨?_, ?_⟩ | fail))
  unfold awSt
  have k1 := take1_can y USet.empty (claimN acs0 1) 30 (hst.kept.sized (by decide)) (by decide) (by rw [hst.used]; exact List.Pairwise.nil) (by rw [hst.used]; decide) t1
  have k2 := take1_can x' S' (claimN acs0 1) 31 (t6.sized (by decide)) (by omega) t7 (by have := t6.used; omega) t8
  have k3 := side_in [x'] 0 Nat.one_pos (t6.sized (by decide))
  rw [show [x'].getD 0 default = x' from rfl] at k3
  have kc := claim16_can acs0 acs0_fair 1 (by decide) 0
  rw [bendC_zero] at kc
  (refine Tri.cut 2 Tryz.mixed Tryz.T_ok ?_; refine xZ ?_)
  (apply wP; exact (call_op rfl (entersB_of Tryz.func17 (by kernel_rfl)) rfl (kc.at [2, 3] ⟨lend_acs (a := acs0) (lend_vecN (lo := 0) rfl rfl rfl (Nat.le_refl _) (row2 rfl rfl)) (lend_vecN (lo := 0) rfl rfl rfl (Nat.le_refl _) (row2 rfl rfl)), lend_plain rfl, lend_plain rfl, trivial⟩ trivial)); refine xZ ?_)
  (apply wP; exact (call_op rfl (entersB_of Tryz.func20 (by kernel_rfl)) rfl (k1.at2 [0] rfl rfl rfl rfl ⟨lend_tx (t := claimTx (claimN acs0 1)) (lend_nil _ _) (lend_nil _ _) (lend_nil _ _) (lend_nil _ _) (lend_nil _ _) (lend_nil _ _), lend_plain rfl, trivial⟩ ⟨lend_ext (c := 0) rfl rfl, trivial⟩)); refine xZ ?_)
  (apply wP; exact (call_op rfl (entersB_of Tryz.func17 (by kernel_rfl)) rfl (kc.at [2, 3] ⟨lend_acs (a := acs0) (lend_vecN (lo := 0) rfl rfl rfl (Nat.le_refl _) (row2 rfl rfl)) (lend_vecN (lo := 0) rfl rfl rfl (Nat.le_refl _) (row2 rfl rfl)), lend_plain rfl, lend_plain rfl, trivial⟩ trivial)); refine xZ ?_)
  (apply wP; exact (call_op rfl (entersB_of Tryz.func20 (by kernel_rfl)) rfl (k2.at2 [0] rfl rfl rfl rfl ⟨lend_tx (t := claimTx (claimN acs0 1)) (lend_nil _ _) (lend_nil _ _) (lend_nil _ _) (lend_nil _ _) (lend_nil _ _) (lend_nil _ _), lend_plain rfl, trivial⟩ ⟨lend_ext (c := 0) rfl rfl, trivial⟩)); refine xZ ?_)
  refine wD <| cutG <| Tri.ent (S' := awSt2 x' S') ?_ ?_
  · unfold awSt2
    ((try dsimp only); refine Ent.renC [0, 4, 5] hC ?_ ?_ <;> repeat' (first | exact trivial | exact rfl | exact ⟨_, rfl, rfl, rfl, Nat.le_refl _, fun _ _ => rfl⟩ | exact ⟨_, rfl, rfl, rfl, fun _ _ => rfl⟩ | exact ⟨_, rfl, rfl, rfl⟩ | exact ⟨_, rfl, rfl⟩ | refine ⟨_, rfl, rfl, rfl, by omega, fun k hk => ?_⟩ | refine ⟨?_, ?_⟩ | fail))
  unfold awSt2
  refine Tri.of Tryz.mixed Tryz.T_ok ?_
  (refine xB ?_)
  (apply wP; exact (call_op rfl (entersB_of Tryz.func22 (by kernel_rfl)) rfl (k3.at1 [] rfl rfl rfl ⟨lend_plain rfl, trivial⟩ trivial)); refine xZ ?_)
  (refine wTd ?_ ?_; (first | refine decide_eq_true ?_ | rw [beq_iff_eq] | rw [bne_iff_ne]); exact xW; refine xG ?_)
  (refine wTd ?_ ?_; (first | refine decide_eq_true ?_ | rw [beq_iff_eq] | rw [bne_iff_ne]); exact xW; refine xG ?_)
  (apply wP; exact (call_op rfl (entersB_of Tryz.func23 (by kernel_rfl)) rfl (total_spec S' (c0 := 2) rfl rfl)); refine xZ ?_)
  exact wD (Ends.plain (.inr rfl) rfl (by rw [t4]; rfl))
end Go.Proofs.YtnpkdoggfnlapaaGreatDoor
namespace Go.Proofs.YtnpkdoggfnlapaaGreatDoor
set_option maxRecDepth 100000
open Go.Sx
def sidedC (c : ClaimM) (s : Int) : ClaimM := { c with side := s }
theorem tm_nat {x n : Nat} (hx : x < 65536) : Int.tmod (IntKind.i64.wrap (x : Int)) (n : Int) = ((x % n : Nat) : Int) := by
  have e1 : IntKind.i64.wrap (x : Int) = (x : Int) := wrap_id (by omega)
  rw [e1, Int.tmod_eq_emod_of_nonneg (by omega), ← Int.natCast_emod]
end Go.Proofs.YtnpkdoggfnlapaaGreatDoor
namespace Go.Proofs.YtnpkdoggfnlapaaGreatDoor
set_option maxRecDepth 100000
open Go.Sx
def bendB (x : UInt16) (n : Nat) : UInt8 := UInt8.ofNat (x.toNat / 256 % n)
theorem bend_is (x : UInt16) (n : Nat) (h0 : 0 < n) (hn : 256 % n = 0) (hn2 : n ≤ 256) : Int.tmod (IntKind.u8.wrap (shrI .u16 ((x.toNat : Nat) : Int) 8)) (n : Int) = ((bendB x n).toNat : Int) := by
  have hx := x.toNat_lt
  have e1 : shrI .u16 ((x.toNat : Nat) : Int) 8 = ((x.toNat / 2 ^ 8 : Nat) : Int) := shr_nat .u16 x.toNat 8 (by decide)
  have e2 : IntKind.u8.wrap ((x.toNat / 2 ^ 8 : Nat) : Int) = ((x.toNat / 2 ^ 8 : Nat) : Int) := by
    show ((x.toNat / 2 ^ 8 : Nat) : Int) % 2 ^ 8 = _
    omega
  have h3 : x.toNat / 256 % n < 256 := Nat.lt_of_lt_of_le (Nat.mod_lt _ h0) hn2
  rw [e1, e2, Int.tmod_eq_emod_of_nonneg (by omega), ← Int.natCast_emod, bendB, UInt8.toNat_ofNat_of_lt' (by simpa [UInt8.size] using h3)]
end Go.Proofs.YtnpkdoggfnlapaaGreatDoor
namespace Go.Proofs.YtnpkdoggfnlapaaGreatDoor
set_option maxRecDepth 100000
open Go.Sx
def FwdM.x (f : FwdM) : CV := .agg (f.cells.map .raw)
end Go.Proofs.YtnpkdoggfnlapaaGreatDoor
namespace Go.Proofs.YtnpkdoggfnlapaaGreatDoor
set_option maxRecDepth 100000
open Go.Sx
end Go.Proofs.YtnpkdoggfnlapaaGreatDoor
namespace Go.Proofs.YtnpkdoggfnlapaaGreatDoor
set_option maxRecDepth 100000
open Go.Sx
theorem noPar_can (p : ParM) (hl : p.keys.length ≤ 1000000000) : Reads Tryz.prog 108 [.box p.ac] [] (XV.bool (parZ p)) := by
  refine Reads.of Tryz.T_ok Tryz.func108 rfl _ _ _ rfl rfl (fun C hC => ?_)
  (replace hC : C.n0 = 1 := hC; change Tri _ _ _ ⟨_, _, 1⟩ _)
  refine Tri.of Tryz.mixed Tryz.T_ok ?_
  (refine xB ?_)
  refine wC (fun h1 => ?_) (fun h1 => ?_)
  · (refine xG ?_)
    refine wC (fun h2 => ?_) (fun h2 => ?_)
    · (refine xG ?_)
      refine wC (fun h3 => ?_) (fun h3 => ?_)
      · (refine xG ?_)
        exact wD (Ends.plain (.inr rfl) rfl (by rw [parZ, h1, h2, h3]; rfl))
      · (refine xG ?_)
        exact wD (Ends.plain (.inr rfl) rfl (by rw [parZ, h1, h2, h3]; rfl))
    · (refine xG ?_)
      exact wD (Ends.plain (.inr rfl) rfl (by rw [parZ, h1, h2]; rfl))
  · (refine xG ?_)
    exact wD (Ends.plain (.inr rfl) rfl (by rw [parZ, h1]; rfl))
theorem sum_zero (a b : Nat) : (((a + b : Nat) : Int) == 0) = (((a : Int) == 0) && ((b : Int) == 0)) := by
  rw [Bool.eq_iff_iff, Bool.and_eq_true, beq_iff_eq, beq_iff_eq, beq_iff_eq]; omega
theorem noCert_can (c : CertM) (h1 : c.outs.length ≤ 1000000000) (h2 : c.sigs.length ≤ 1000000000) : Reads Tryz.prog 109 [.box c.ac] [] (XV.bool (certZ c)) := by
  refine Reads.of Tryz.T_ok Tryz.func109 rfl _ _ _ rfl rfl (fun C hC => ?_)
  (replace hC : C.n0 = 2 := hC; change Tri _ _ _ ⟨_, _, 2⟩ _)
  refine Tri.of Tryz.mixed Tryz.T_ok ?_
  (refine xB ?_)
  refine wC (fun h1 => ?_) (fun h1 => ?_)
  · (refine xG ?_)
    refine wC (fun h2 => ?_) (fun h2 => ?_)
    · (refine xG ?_)
      refine wC (fun h3 => ?_) (fun h3 => ?_)
      · (refine xG ?_)
        (refine wP _ _ (eq_op hashE rfl c.fin zeroH rfl rfl) ?_; refine xZ ?_)
        refine wC (fun h4 => ?_) (fun h4 => ?_)
        · (refine xG ?_)
          (refine wP _ _ (eq_op hashE rfl c.root zeroH rfl rfl) ?_; refine xZ ?_)
          refine wC (fun h5 => ?_) (fun h5 => ?_)
          · (refine xG ?_)
            refine wC (fun h6 => ?_) (fun h6 => ?_)
            · (refine xG ?_)
              exact wD (Ends.plain (.inr rfl) rfl (by rw [certZ, sum_zero, h1, h2, h3, zeroB, h4, zeroB, h5, h6]; rfl))
            · (refine xG ?_)
              exact wD (Ends.plain (.inr rfl) rfl (by rw [certZ, sum_zero, h1, h2, h3, zeroB, h4, zeroB, h5, h6]; rfl))
          · (refine xG ?_)
            exact wD (Ends.plain (.inr rfl) rfl (by rw [certZ, h1, h2, h3, zeroB, h4, zeroB, h5]; rfl))
        · (refine xG ?_)
          exact wD (Ends.plain (.inr rfl) rfl (by rw [certZ, h1, h2, h3, zeroB, h4]; rfl))
      · (refine xG ?_)
        exact wD (Ends.plain (.inr rfl) rfl (by rw [certZ, h1, h2, h3]; rfl))
    · (refine xG ?_)
      exact wD (Ends.plain (.inr rfl) rfl (by rw [certZ, h1, h2]; rfl))
  · (refine xG ?_)
    exact wD (Ends.plain (.inr rfl) rfl (by rw [certZ, h1]; rfl))
end Go.Proofs.YtnpkdoggfnlapaaGreatDoor
namespace Go.Sx
end Go.Sx
namespace Go.Proofs.YtnpkdoggfnlapaaGreatDoor
set_option maxRecDepth 100000
open Go.Sx
theorem drop_pre {E : Type} (pre l : List E) (k : Nat) : (pre ++ l).drop (pre.length + k) = l.drop k := by rw [← List.drop_drop, List.drop_left]
theorem hashesL_zero (p : Nat → H8) : hashesL p 0 = [] := rfl
theorem tab_hash_mid (p : Nat → H8) : ∀ (m i n : Nat) (post : List Value), n < m → (((tabF (hashF p) i m ++ post).drop (n * 8)).take 8) = (p (i + n)).cells
  | 0, _, _, _, h => absurd h (Nat.not_lt_zero _)
  | m + 1, i, 0, post, _ => rfl
  | m + 1, i, n + 1, post, h => by
    have e : (n + 1) * 8 = (p i).cells.length + n * 8 := by show _ = 8 + n * 8; omega
    show (((p i).cells ++ tabF (hashF p) (i + 1) m ++ post).drop ((n + 1) * 8)).take 8 = _
    rw [List.append_assoc, e, drop_pre, tab_hash_mid p m (i + 1) n post (by omega)]
    rw [show i + 1 + n = i + (n + 1) by omega]
theorem tab_hash_at (p : Nat → H8) (j : Nat) {m n off l : Nat} {pre post cs : List Value} (hcs : cs = pre ++ (tabF (hashF p) 0 m ++ post)) (hn : n < m) (hj : j = pre.length) (hoff : off = j + n * 8) (hl : l = 8) : ((cs.map SV.raw).drop off).take (l * 1) = (tabF (rowB (p n).l) 0 l).map .raw := by
  subst hcs hoff hj hl
  rw [← List.map_drop, ← List.map_take, drop_pre, tab_hash_mid p m 0 n post hn, Nat.zero_add]
  rfl
end Go.Proofs.YtnpkdoggfnlapaaGreatDoor
namespace Go.Proofs.YtnpkdoggfnlapaaGreatDoor
set_option maxRecDepth 100000
open Go.Sx
theorem rowB_joinL {a b : List UInt8} {f g : Nat → List Value} {m : Nat} (hm : m = a.length) (hf : ∀ i, i < a.length → f i = rowB a i) (hg : ∀ i, i < b.length → g i = rowB b i) : ∀ i, i < (a ++ b).length → joinF f m g i = rowB (a ++ b) i := fun i hi => rowB_join hm hf hg (by rw [← List.length_append]; exact hi)
end Go.Proofs.YtnpkdoggfnlapaaGreatDoor
namespace Go.Proofs.YtnpkdoggfnlapaaGreatDoor
set_option maxRecDepth 100000
open Go.Sx
end Go.Proofs.YtnpkdoggfnlapaaGreatDoor
