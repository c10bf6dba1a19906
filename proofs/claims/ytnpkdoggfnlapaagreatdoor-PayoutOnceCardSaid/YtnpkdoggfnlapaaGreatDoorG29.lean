/- Parts Kc Kd By. -/
import Derived.Test.YtnpkdoggfnlapaaGreatDoorG21
import Derived.Test.YtnpkdoggfnlapaaGreatDoorG24
import Derived.Test.YtnpkdoggfnlapaaGreatDoorG25
set_option linter.unusedSimpArgs false
set_option linter.unusedVariables false
namespace Go.Proofs.YtnpkdoggfnlapaaGreatDoor
set_option maxRecDepth 100000
open Go.Sx
def paidL : List H8 := [⟨28, 174, 45, 143, 242, 11, 104, 50⟩, ⟨61, 127, 230, 32, 36, 196, 140, 89⟩, ⟨31, 26, 121, 26, 187, 230, 174, 96⟩, ⟨153, 234, 194, 71, 49, 181, 120, 100⟩, ⟨24, 1, 61, 156, 149, 0, 181, 252⟩, ⟨50, 14, 26, 161, 237, 181, 135, 85⟩, ⟨126, 164, 204, 159, 36, 174, 17, 176⟩, ⟨135, 232, 234, 11, 68, 86, 192, 73⟩, ⟨81, 219, 172, 133, 248, 21, 215, 57⟩, ⟨186, 196, 19, 102, 152, 114, 106, 193⟩, ⟨4, 135, 44, 25, 15, 251, 79, 14⟩, ⟨5, 118, 158, 189, 69, 199, 149, 105⟩, ⟨195, 178, 203, 52, 199, 73, 36, 46⟩, ⟨3, 50, 186, 25, 65, 14, 75, 99⟩, ⟨183, 248, 174, 208, 98, 184, 154, 211⟩, ⟨237, 41, 236, 59, 219, 128, 25, 237⟩, ⟨61, 224, 148, 196, 95, 179, 37, 170⟩, ⟨150, 35, 165, 166, 193, 32, 128, 200⟩, ⟨190, 16, 138, 96, 52, 94, 43, 192⟩, ⟨144, 19, 148, 211, 90, 232, 23, 70⟩, ⟨214, 60, 211, 233, 15, 107, 217, 84⟩, ⟨174, 39, 255, 163, 104, 29, 182, 141⟩, ⟨186, 221, 214, 141, 72, 148, 223, 136⟩, ⟨23, 14, 179, 192, 62, 142, 209, 53⟩, ⟨14, 132, 3, 201, 95, 182, 57, 205⟩, ⟨230, 255, 25, 190, 111, 26, 19, 202⟩, ⟨205, 83, 233, 171, 44, 208, 174, 7⟩, ⟨73, 185, 215, 93, 51, 27, 228, 167⟩, ⟨151, 159, 109, 205, 176, 223, 44, 211⟩, ⟨192, 31, 199, 231, 64, 82, 120, 65⟩, ⟨224, 204, 121, 24, 216, 202, 204, 234⟩, ⟨91, 227, 106, 156, 144, 90, 184, 177⟩, ⟨148, 197, 158, 29, 93, 232, 125, 58⟩, ⟨39, 159, 32, 23, 68, 166, 84, 138⟩, ⟨231, 82, 142, 235, 123, 89, 189, 1⟩, ⟨188, 67, 7, 69, 21, 242, 67, 43⟩, ⟨23, 215, 231, 121, 208, 80, 88, 170⟩, ⟨25, 219, 216, 56, 74, 197, 90, 160⟩, ⟨37, 19, 46, 104, 174, 131, 121, 85⟩, ⟨16, 216, 21, 8, 130, 96, 175, 242⟩, ⟨174, 11, 82, 27, 73, 171, 97, 68⟩, ⟨113, 14, 74, 233, 239, 227, 131, 80⟩, ⟨208, 47, 85, 23, 239, 250, 164, 254⟩, ⟨108, 87, 128, 133, 107, 200, 204, 219⟩, ⟨143, 98, 230, 121, 218, 25, 232, 180⟩, ⟨55, 133, 199, 176, 187, 122, 246, 35⟩, ⟨198, 128, 114, 41, 81, 218, 22, 27⟩, ⟨172, 196, 133, 197, 109, 213, 191, 12⟩, ⟨214, 157, 186, 133, 154, 55, 87, 4⟩, ⟨1, 82, 246, 17, 143, 15, 152, 55⟩, ⟨247, 213, 118, 130, 247, 237, 155, 40⟩, ⟨34, 7, 167, 8, 176, 66, 130, 37⟩, ⟨141, 220, 91, 9, 192, 122, 46, 207⟩, ⟨59, 126, 23, 3, 140, 43, 84, 231⟩, ⟨201, 214, 134, 149, 213, 249, 90, 187⟩, ⟨243, 140, 136, 227, 172, 86, 39, 189⟩, ⟨0, 170, 89, 247, 88, 61, 216, 65⟩, ⟨58, 80, 77, 15, 26, 221, 172, 237⟩, ⟨188, 82, 180, 203, 229, 62, 245, 74⟩, ⟨105, 94, 130, 166, 157, 42, 246, 204⟩, ⟨180, 7, 55, 0, 50, 155, 182, 82⟩, ⟨36, 241, 43, 157, 148, 107, 159, 152⟩, ⟨154, 225, 164, 142, 127, 28, 198, 109⟩, ⟨202, 157, 212, 88, 151, 193, 250, 43⟩]
def paidC (s e : Nat) : H8 := paidL.getD (8 * s + e) default
def bytes1 (s : Nat) : List UInt8 := [UInt8.ofNat s]
def bytes4 (e : Nat) : List UInt8 := [UInt8.ofNat e, 0, 0, 0]
theorem bytes1_eq : ∀ s, s < 8 → numL ((s : Nat) : Int) 1 = bytes1 s := by decide
theorem bytes4_eq : ∀ e, e < 8 → numL ((e : Nat) : Int) 4 = bytes4 e := by decide
noncomputable def ptest (i : Nat) : Bool := fdig 119 [bytes1 (i / 8), bytes4 (i % 8), finH.l] (isH (paidL.getD i default))
noncomputable def pall : Nat → Bool
  | 0 => true
  | n + 1 => ptest n && pall n
theorem pall_at : ∀ {n : Nat}, pall n = true → ∀ i, i < n → ptest i = true
  | n + 1, h, i, hi => by
    rw [pall, Bool.and_eq_true] at h
    by_cases e : i = n
    · rw [e]; exact h.1
    · exact pall_at h.2 i (by omega)
theorem pall64 : pall 64 = true := by kernel_rfl
theorem paid_is {s e : Nat} (hs : s < 8) (he : e < 8) : paidH (s : Int) (e : Int) finH = paidC s e := by
  have h := pall_at pall64 (8 * s + e) (by omega)
  rw [ptest, fdig_eq, show (8 * s + e) / 8 = s by omega, show (8 * s + e) % 8 = e by omega] at h
  rw [paidH, bytes1_eq s hs, bytes4_eq e he]
  exact of_isH h
def apartH : List H8 → Bool
  | [] => true
  | h :: r => !(r.any (isH h)) && apartH r
theorem isH_self (h : H8) : isH h h = true := by simp [isH, Nat.beq_eq]
theorem apartH_at : ∀ {l : List H8}, apartH l = true → ∀ i j, i < j → j < l.length → l.getD i default ≠ l.getD j default
  | h :: r, ha, i, j, hij, hj => by
    rw [apartH, Bool.and_eq_true, Bool.not_eq_true'] at ha
    obtain ⟨j, rfl⟩ : ∃ k, j = k + 1 := ⟨j - 1, by omega⟩
    rcases i with _ | i
    · intro e
      have e' : h = r.getD j default := e
      have hm : r.getD j default ∈ r := by
        rw [List.getD_eq_getElem?_getD, List.getElem?_eq_getElem (by simpa using hj)]
        exact List.getElem_mem _
      have : r.any (isH h) = true := List.any_eq_true.2 ⟨_, hm, by rw [← e']; exact isH_self h⟩
      rw [this] at ha; cases ha.1
    · exact apartH_at ha.2 i j (by omega) (by simpa using hj)
theorem paidL_apart : apartH paidL = true := by kernel_rfl
theorem paid_ne {s e s' e' : Nat} (hs : s < 8) (he : e < 8) (hs' : s' < 8) (he' : e' < 8) (h : s ≠ s' ∨ e ≠ e') : paidH (s : Int) (e : Int) finH ≠ paidH (s' : Int) (e' : Int) finH := by
  rw [paid_is hs he, paid_is hs' he']
  have hl : paidL.length = 64 := rfl
  rcases Nat.lt_trichotomy (8 * s + e) (8 * s' + e') with h1 | h1 | h1
  · exact apartH_at paidL_apart _ _ h1 (by rw [hl]; omega)
  · omega
  · exact fun e => apartH_at paidL_apart _ _ h1 (by rw [hl]; omega) e.symm
end Go.Proofs.YtnpkdoggfnlapaaGreatDoor
namespace Go.Proofs.YtnpkdoggfnlapaaGreatDoor
set_option maxRecDepth 100000
open Go.Sx
def po (e : Nat) : Plan14 := ⟨0, (e : Int), 1, [Int64.ofNat (10 + e)], [0, 1], 0⟩
theorem po_ok {e : Nat} (he : e ≤ 8) : PlanOK (po e) 0 1 :=
  ⟨rfl, rfl, rfl, rfl, by decide, by decide, ⟨Int.le_refl 0, show (0 : Int) ≤ 7 by decide⟩, ⟨Int.natCast_nonneg _, by show (e : Int) ≤ 400; omega⟩, ⟨show (0 : Int) ≤ 1 by decide, show (1 : Int) ≤ 2147483647 by decide⟩, show 1 ≤ 16 by decide, fun i hi => by
    obtain rfl : i = 0 := by have : i < 1 := hi; omega
    show 1 ≤ (Int64.ofNat (10 + e)).toInt ∧ (Int64.ofNat (10 + e)).toInt ≤ 1125899906842624
    rw [toInt_ofNat (by omega)]
    omega⟩
theorem po_sum {e : Nat} (he : e ≤ 8) : sumO (make14 (po e)).outs = 10 + (e : Int) := by
  have h : (make14 (po e)).outs = [out14 (po e) 0] := rfl
  rw [h]
  show (Int64.ofNat (10 + e)).toInt + 0 = _
  rw [toInt_ofNat (by omega)]
  omega
theorem po_outs (e : Nat) : (make14 (po e)).outs.length = 1 := rfl
theorem po_sigs (e : Nat) : (make14 (po e)).sigs.length = 2 := by rw [show (make14 (po e)).sigs.length = (po e).who.length from signL_len _ _ _]; rfl
def mat10 : Nat → Int
  | 0 => 0
  | n + 1 => mat10 n + 10 + (n : Int)
theorem mat10_le : ∀ {n : Nat}, n ≤ 6 → 0 ≤ mat10 n ∧ mat10 n ≤ 100 := by
  intro n hn
  have : ∀ m, m ≤ 6 → 0 ≤ mat10 m ∧ mat10 m ≤ 100 := by decide
  exact this n hn
def overN (h : Nat) : Nat := (h - 6) / 4
def waits (stop b h : Nat) : Bool := decide (b = 0 ∧ 9 ≤ h ∧ (h - 9) % 4 = 0 ∧ (h - 9) / 4 < stop)
structure Once (stop b h : Nat) (x : SideM) (S : USet) : Prop where
  par : x.par = mp
  made : x.made = 3
  used : x.used = []
  mat : x.mat = mat10 (min (overN h) stop)
  bal : x.bal = 900 - mat10 (min (overN h) stop)
  tot : S.total = mat10 (min (overN h) stop)
  steps : S.steps.length ≤ overN h
  goes : overN h ≤ stop → x.ceased = false
  gone : stop < overN h → x.ceased = true ∧ x.hgt = ((9 + 4 * stop : Nat) : Int)
  pend : x.pend = waits stop b h
  cert : waits stop b h = true → x.cert = make14 (po ((h - 9) / 4))
  few : x.cert.outs.length ≤ 1 ∧ x.cert.sigs.length ≤ 2
  fresh : ∀ e, e < 8 → min (overN h) stop ≤ e → mget S.coins (ptAt (paidH 0 (e : Int) finH) 0) = none
theorem once_start (stop b : Nat) : Once stop b 4 (sideN 900) USet.empty := by
  obtain ⟨g1, g2, g3, g4, g5, g6, g7⟩ := goes_start (m := 900) (by decide) (by decide)
  have h0 : min (overN 4) stop = 0 := Nat.zero_min _
  have hw : waits stop b 4 = false := by rw [waits, decide_eq_false_iff_not]; omega
  refine ⟨g1.par, g1.made, g7, ?_, ?_, ?_, Nat.zero_le _, fun _ => g1.ceased, fun h => absurd h (Nat.not_lt_zero _), by rw [g5, hw], fun h => absurd h (by rw [hw]; simp), ?_, fun _ _ _ => rfl⟩
  · rw [h0, g3]; rfl
  · rw [h0, g2]; rfl
  · rw [h0]; rfl
  · rw [g6]; decide
theorem Once.sized {stop b h : Nat} {x : SideM} {S : USet} (h : Once stop b h x S) : x.Sized :=
  goes_sized h.par (by have := h.few; omega) (by have := h.few; omega) h.used
def takes (b h : Nat) : Bool := decide (8 ≤ h ∧ (h - 8) % 4 = b)
structure OnceStep (stop b h : Nat) (x : SideM) (S : USet) (x1 x2 : SideM) (S2 : USet) (f : Int) : Prop where
  take : takes b h = true → (h - 8) / 4 ≠ stop → takeC [x] (make14 (po ((h - 8) / 4))) (h : Int) finH = ([x1], f)
  fval : takes b h = true → (h - 8) / 4 ≠ stop → (((h - 8) / 4 < stop → f = 0) ∧ (stop ≤ (h - 8) / 4 → f = 14))
  same : ¬ (takes b h = true ∧ (h - 8) / 4 ≠ stop) → x1 = x
  fin : endE (Int64.ofNat h) [x1] S = (([x2], S2), 0)
  sized : x1.Sized
  outs : x1.cert.outs.length ≤ 1000
  next : Once stop b (h + 1) x2 S2
theorem endE_one {h : Int64} {x y : SideM} {S S' : USet} (h1 : endOne h 0 [x] S x = (([y], S'), 0)) : endE h [x] S = (([y], S'), 0) := (endN_step rfl).trans h1
theorem once_take {stop b h : Nat} (hb : b ≤ 1) (h4 : 4 ≤ h) (h40 : h < 40) (hs : stop ≤ 5) {x : SideM} {S : USet} (H : Once stop b h x S) (ht : takes b h = true) (hne : (h - 8) / 4 ≠ stop) :
    ((h - 8) / 4 < stop → takeC [x] (make14 (po ((h - 8) / 4))) (h : Int) finH = ([waitX x (make14 (po ((h - 8) / 4)))], 0)) ∧ (stop ≤ (h - 8) / 4 → takeC [x] (make14 (po ((h - 8) / 4))) (h : Int) finH = ([x], 14)) := by
  rw [takes, decide_eq_true_eq] at ht
  obtain ⟨e, he⟩ : ∃ e, (h - 8) / 4 = e := ⟨_, rfl⟩
  rw [he] at hne ⊢
  have hov : overN h = e := by rw [overN]; omega
  have hp := po_ok (e := e) (by omega)
  have hm := mat10_le (n := min (overN h) stop) (by omega)
  constructor
  · intro hlt
    have hg : Goes x := ⟨H.par, H.made, H.goes (by omega)⟩
    have hpend : x.pend = false := by rw [H.pend, waits, decide_eq_false_iff_not]; omega
    exact take_plan (L := [x]) (x := x) hp Nat.one_pos rfl hg ⟨by show 3 + ((e : Int) + 1) * 4 < (h : Int); omega, by show (h : Int) ≤ 3 + ((e : Int) + 1) * 4 + 2; omega⟩ (.inl hpend) (by rw [po_sum (by omega), H.bal]; omega) (by rw [po_sum (by omega)]; omega)
  · intro hle
    have hce := (H.gone (by omega)).1
    have hside : (make14 (po e)).side = 0 := rfl
    have hf : fitsX x (make14 (po e)) (h : Int) finH = 14 := by rw [fitsX, if_pos hce]
    have hc : checkC [x] (make14 (po e)) (h : Int) finH = 14 := by
      rw [checkC, plan_ok hp, if_neg (by simp), hside, if_neg (show ¬ (([x].length : Nat) : Int) ≤ 0 by show ¬ ((1 : Nat) : Int) ≤ 0; decide), show [x].getD (0 : Int).toNat default = x from rfl, hf, if_neg (by decide)]
    rw [takeC, hc, if_neg (by decide)]
theorem once_step {stop b h : Nat} (hb : b ≤ 1) (h4 : 4 ≤ h) (h40 : h < 40) (hs : stop ≤ 5) {x : SideM} {S : USet} (H : Once stop b h x S) : ∃ x1 x2 S2 f, OnceStep stop b h x S x1 x2 S2 f := by
  have hhi : (Int64.ofNat h).toInt = (h : Int) := toInt_ofNat (by omega)
  -- what the certificate does
  obtain ⟨x1, f, k1, k2, k3, kx⟩ : ∃ (x1 : SideM) (f : Int), (takes b h = true → (h - 8) / 4 ≠ stop → takeC [x] (make14 (po ((h - 8) / 4))) (h : Int) finH = ([x1], f)) ∧ (takes b h = true → (h - 8) / 4 ≠ stop → (((h - 8) / 4 < stop → f = 0) ∧ (stop ≤ (h - 8) / 4 → f = 14))) ∧ (¬ (takes b h = true ∧ (h - 8) / 4 ≠ stop) → x1 = x) ∧ ((x1 = x ∧ ¬ (takes b h = true ∧ (h - 8) / 4 < stop)) ∨ (x1 = waitX x (make14 (po ((h - 8) / 4))) ∧ takes b h = true ∧ (h - 8) / 4 < stop)) := by
    by_cases ht : takes b h = true ∧ (h - 8) / 4 ≠ stop
    · obtain ⟨t1, t2⟩ := once_take hb h4 h40 hs H ht.1 ht.2
      by_cases hlt : (h - 8) / 4 < stop
      · exact ⟨_, 0, fun _ _ => t1 hlt, fun _ _ => ⟨fun _ => rfl, fun h => absurd h (by omega)⟩, fun h => absurd ht h, .inr ⟨rfl, ht.1, hlt⟩⟩
      · exact ⟨_, 14, fun _ _ => t2 (by omega), fun _ _ => ⟨fun h => absurd h hlt, fun _ => rfl⟩, fun h => absurd ht h, .inl ⟨rfl, fun h => hlt h.2⟩⟩
    · exact ⟨x, 0, fun a c => absurd ⟨a, c⟩ ht, fun a c => absurd ⟨a, c⟩ ht, fun _ => rfl, .inl ⟨rfl, fun h => ht ⟨h.1, by omega⟩⟩⟩
  have hsz := H.sized
  have q1 : x1.par = mp ∧ x1.made = 3 ∧ x1.used = [] ∧ x1.mat = x.mat ∧ x1.bal = x.bal ∧ x1.ceased = x.ceased ∧ x1.hgt = x.hgt := by
    rcases kx with ⟨rfl, -⟩ | ⟨rfl, -, -⟩
    · exact ⟨H.par, H.made, H.used, rfl, rfl, rfl, rfl⟩
    · exact ⟨H.par, H.made, H.used, rfl, rfl, rfl, rfl⟩
  have qf : x1.cert.outs.length ≤ 1 ∧ x1.cert.sigs.length ≤ 2 := by
    rcases kx with ⟨rfl, -⟩ | ⟨rfl, -, -⟩
    · exact H.few
    · exact ⟨Nat.le_of_eq (po_outs _), Nat.le_of_eq (po_sigs _)⟩
  obtain ⟨q1, q2, q3, q4, q5, q6, q7⟩ := q1
  have sz1 : x1.Sized := goes_sized q1 (by omega) (by omega) q3
  have hm := mat10_le (n := min (overN h) stop) (by omega)
  -- the end of the height
  by_cases hce : x.ceased = true
  · have hov : stop < overN h := by
      rcases Nat.lt_or_ge stop (overN h) with h1 | h1
      · exact h1
      · rw [H.goes h1] at hce; cases hce
    have hmin : min (overN (h + 1)) stop = stop ∧ min (overN h) stop = stop := by rw [overN, overN] at *; omega
    have hw : waits stop b (h + 1) = false := by rw [waits, decide_eq_false_iff_not]; rw [overN] at hov; omega
    have hx1 : x1 = x := by
      rcases kx with ⟨e, -⟩ | ⟨-, ht, hlt⟩
      · exact e
      · rw [takes, decide_eq_true_eq] at ht; rw [overN] at hov; omega
    subst hx1
    have hwh : waits stop b h = false := by rw [waits, decide_eq_false_iff_not]; rw [overN] at hov; omega
    refine ⟨x1, x1, S, f, k1, k2, k3, endE_one (endOne_idle (by rw [due_ceased hce])), sz1, by omega, ?_⟩
    exact ⟨q1, q2, q3, by rw [hmin.1, H.mat, hmin.2], by rw [hmin.1, H.bal, hmin.2], by rw [hmin.1, H.tot, hmin.2], by have := H.steps; rw [overN] at *; omega, fun h1 => by rw [overN] at *; omega, fun _ => H.gone hov, by rw [H.pend, hwh, hw], fun h1 => absurd h1 (by rw [hw]; simp), qf, fun e he h1 => H.fresh e he (by omega)⟩
  · have hce' : x.ceased = false := by simpa using hce
    have hov : overN h ≤ stop := by
      rcases Nat.lt_or_ge stop (overN h) with h1 | h1
      · rw [(H.gone h1).1] at hce'; cases hce'
      · exact h1
    have hg : Goes x1 := ⟨q1, q2, q6.trans hce'⟩
    have hd := due_mp hg (h := h) (by omega)
    by_cases hdue : dueN h = true
    · obtain ⟨e, he⟩ : ∃ e, (h - 9) / 4 = e := ⟨_, rfl⟩
      have hdue' := hdue
      rw [dueN, Bool.and_eq_true, decide_eq_true_eq, decide_eq_true_eq] at hdue'
      have hove : overN h = e := by rw [overN]; omega
      have hov1 : overN (h + 1) = e + 1 := by rw [overN]; omega
      by_cases hlt : e < stop
      · -- paid
        have hc : x1.pend = true ∧ x1.cert = make14 (po e) := by
          rcases kx with ⟨rfl, hn⟩ | ⟨rfl, ht, hl⟩
          · have hw : waits stop b h = true := by
              rw [waits, decide_eq_true_eq]
              rcases Nat.lt_or_ge b 1 with hb0 | hb1
              · omega
              · exact absurd ⟨by rw [takes, decide_eq_true_eq]; omega, by omega⟩ hn
            exact ⟨by rw [H.pend, hw], by rw [H.cert hw, he]⟩
          · refine ⟨rfl, ?_⟩
            rw [takes, decide_eq_true_eq] at ht
            show make14 (po ((h - 8) / 4)) = _
            rw [show (h - 8) / 4 = e by omega]
        have hp := po_ok (e := e) (by omega)
        have hsum := po_sum (e := e) (by omega)
        have hmin : min (overN h) stop = e ∧ min (overN (h + 1)) stop = e + 1 := by omega
        have hb1 : x1.bal = 900 - mat10 e := by rw [q5, H.bal, hmin.1]
        have hm1 : x1.mat = mat10 e := by rw [q4, H.mat, hmin.1]
        rw [hmin.1] at hm
        have hcp : CanPay x1 := ⟨by rw [hc.2]; exact plan_amt hp, by rw [hc.2, po_outs]; decide, by rw [hc.2, hsum, hb1]; omega⟩
        have htot : S.total = mat10 e := by rw [H.tot, hmin.1]
        have hfin : (make14 (po e)).fin = finH := plan_fin hp
        have hep : (make14 (po e)).ep = (e : Int) := rfl
        obtain ⟨S2, hpg, hS⟩ := pay_plain (x := x1) (S := S) (i := ((0 : Nat) : Int)) (h := Int64.ofNat h) hcp (by rw [htot]; omega) (by rw [hc.2, hsum, htot]; omega) (fun k hk => by
          rw [hc.2, po_outs] at hk
          obtain rfl : k = 0 := by omega
          rw [hc.2, hep, hfin]
          exact H.fresh e (by omega) (by omega))
        have hv := pay_vals hcp (by rw [hb1]; omega) (by rw [hm1]; omega)
        have hone : endOne (Int64.ofNat h) 0 [x1] S x1 = (([payX x1], S2), 0) :=
          endOne_pay (by rw [hhi]; exact hd.1.trans hdue) hc.1 (by rw [hhi, hd.2 hdue, hc.2, hep, he]) hpg
        have hw : waits stop b (h + 1) = false := by rw [waits, decide_eq_false_iff_not]; omega
        refine ⟨x1, payX x1, S2, f, k1, k2, k3, endE_one hone, sz1, by omega, ?_⟩
        have hnew := hS.old
        rw [hc.2, hsum] at hv
        have htot2 := hS.total
        rw [hc.2, hsum] at htot2
        have hst2 := hS.steps
        rw [hc.2, po_outs] at hst2
        refine ⟨by rw [hv]; exact q1, by rw [hv]; exact q2, by rw [hv]; exact q3, ?_, ?_, ?_, ?_, fun _ => by rw [hv]; exact q6.trans hce', fun h1 => by omega, by rw [hv, hw], fun h1 => absurd h1 (by rw [hw]; simp), by rw [hv]; exact ⟨Nat.zero_le _, Nat.zero_le _⟩, fun e' he' hle => ?_⟩
        · rw [hv, hmin.2, mat10]; show x1.mat + _ = _; rw [hm1]; omega
        · rw [hv, hmin.2, mat10]; show x1.bal - _ = _; rw [hb1]; omega
        · rw [htot2, hmin.2, mat10, htot]; omega
        · have := H.steps; omega
        · rw [hnew (ptAt (paidH 0 (e' : Int) finH) 0) (fun k hk => ?_)]
          · exact H.fresh e' he' (by omega)
          · rw [hc.2, hep, hfin]
            exact ptAt_id (paid_ne (s := 0) (s' := 0) (by decide) he' (by decide) (by omega) (.inr (by omega)))
      · -- ceased
        have hes : e = stop := by omega
        have hpd : x1.pend = false := by
          have hx1 : x1 = x := by
            rcases kx with ⟨e1, -⟩ | ⟨-, ht, hl⟩
            · exact e1
            · rw [takes, decide_eq_true_eq] at ht; omega
          rw [hx1, H.pend, waits, decide_eq_false_iff_not]; omega
        have hmin : min (overN (h + 1)) stop = stop ∧ min (overN h) stop = stop := by omega
        have hw : waits stop b (h + 1) = false := by rw [waits, decide_eq_false_iff_not]; omega
        have hone : endOne (Int64.ofNat h) 0 [x1] S x1 = (([ceaseX x1 (h : Int)], S), 0) := by
          rw [endOne_cease (by rw [hhi]; exact hd.1.trans hdue) (.inl hpd), hhi]; rfl
        refine ⟨x1, ceaseX x1 (h : Int), S, f, k1, k2, k3, endE_one hone, sz1, by omega, ?_⟩
        refine ⟨q1, q2, q3, ?_, ?_, ?_, ?_, fun h1 => by omega, fun _ => ⟨rfl, ?_⟩, ?_, fun h1 => absurd h1 (by rw [hw]; simp), qf, fun e' he' hle => H.fresh e' he' (by omega)⟩
        · rw [hmin.1]; show x1.mat = _; rw [q4, H.mat, hmin.2]
        · rw [hmin.1]; show x1.bal = _; rw [q5, H.bal, hmin.2]
        · rw [hmin.1, H.tot, hmin.2]
        · have := H.steps; omega
        · show (h : Int) = _; omega
        · rw [hw]; exact hpd
    · have hdue' : dueN h = false := by simpa using hdue
      have hnd : ¬ (9 ≤ h ∧ (h - 9) % 4 = 0) := by
        rw [dueN, Bool.and_eq_false_iff, decide_eq_false_iff_not, decide_eq_false_iff_not] at hdue'
        omega
      have hov1 : overN (h + 1) = overN h := by rw [overN, overN]; omega
      refine ⟨x1, x1, S, f, k1, k2, k3, endE_one (endOne_idle (by rw [hhi]; exact hd.1.trans hdue')), sz1, by omega, ?_⟩
      have hpc : x1.pend = waits stop b (h + 1) ∧ (waits stop b (h + 1) = true → x1.cert = make14 (po ((h + 1 - 9) / 4))) := by
        rcases kx with ⟨rfl, hn⟩ | ⟨rfl, ht, hl⟩
        · have hw : waits stop b h = false := by rw [waits, decide_eq_false_iff_not]; omega
          have hw1 : waits stop b (h + 1) = false := by
            rw [waits, decide_eq_false_iff_not]
            rintro ⟨a1, a2, a3, a4⟩
            exact hn ⟨by rw [takes, decide_eq_true_eq]; omega, by omega⟩
          exact ⟨by rw [H.pend, hw, hw1], fun h1 => absurd h1 (by rw [hw1]; simp)⟩
        · rw [takes, decide_eq_true_eq] at ht
          have hw1 : waits stop b (h + 1) = true := by rw [waits, decide_eq_true_eq]; omega
          refine ⟨by rw [hw1]; rfl, fun _ => ?_⟩
          show make14 (po ((h - 8) / 4)) = _
          rw [show h + 1 - 9 = h - 8 by omega]
      exact ⟨q1, q2, q3, by rw [hov1, q4, H.mat], by rw [hov1, q5, H.bal], by rw [hov1, H.tot], by rw [hov1]; exact H.steps, fun _ => q6.trans hce', fun h1 => by rw [hov1] at h1; omega, hpc.1, hpc.2, qf, fun e' he' hle => H.fresh e' he' (by rw [hov1] at hle; exact hle)⟩
end Go.Proofs.YtnpkdoggfnlapaaGreatDoor
namespace Go.Proofs.YtnpkdoggfnlapaaGreatDoor
set_option maxRecDepth 100000
open Go.Sx
theorem po_and1 : ∀ n : Nat, n < 256 → bitI .and .i64 ((n : Nat) : Int) 1 = ((n % 2 : Nat) : Int) := by decide
def poM (x : SideM) (S : USet) : Mem := [(2, .ext stepsP), (3, .abs (pReg [x])), (4, .abs (usetP S))]
def poSt (n : UInt8) (paid : Int) (stop h : Nat) (x : SideM) (S : USet) : St :=
  ⟨[none, some (XV.val (u8 n)), none, none, none, some (XV.sv (.ptr 3 0 0 0)), none, some (XV.sv (.ptr 4 0 0 0)), some (XV.int .i64 paid), some (XV.int .i64 stop), some (XV.int .i64 h)] ++ List.replicate 146 none, poM x S, 5⟩
theorem lend_insN {M : Mem} {rd : List Nat} {c j m k k' n e sz : Nat} {l : List Chunk} {f g : Nat → List Value} (hkk : k' = k) (hm : M.get c = some (.abs (PackP l))) (hrd : nmem c rd = true) (hml : m = l.length) (hl : l[j]? = some (.vec e sz n f)) (hk : k ≤ n) (hg : ∀ i, i < k → g i = f i) : Lends M rd (.one (.ins c m j k')) (.row sz k g) := by
  subst hkk; exact lend_ins hm hrd hml hl hk hg
structure OnceI (stop b : Nat) where
  h : Nat
  x : SideM
  S : USet
  lo : 4 ≤ h
  hi : h ≤ 40
  once : Once stop b h x S
theorem mat_step {stop b h : Nat} {x x2 : SideM} {S S2 : USet} (H : Once stop b h x S) (H2 : Once stop b (h + 1) x2 S2) (h4 : 4 ≤ h) (h40 : h < 40) :
    x2.mat = if 9 ≤ h ∧ (h - 9) % 4 = 0 ∧ (h - 9) / 4 < stop then x.mat + 10 + (((h - 9) / 4 : Nat) : Int) else x.mat := by
  rw [H2.mat, H.mat]
  by_cases hc : 9 ≤ h ∧ (h - 9) % 4 = 0 ∧ (h - 9) / 4 < stop
  · rw [if_pos hc]
    obtain ⟨e, he⟩ : ∃ e, (h - 9) / 4 = e := ⟨_, rfl⟩
    have e1 : min (overN (h + 1)) stop = e + 1 := by rw [overN]; omega
    have e2 : min (overN h) stop = e := by rw [overN]; omega
    rw [e1, e2, he, mat10]
  · rw [if_neg hc]
    have e1 : min (overN (h + 1)) stop = min (overN h) stop := by rw [overN, overN]; omega
    rw [e1]
set_option maxHeartbeats 16000000 in
theorem payoutOnce_walk (sk n : UInt8) : Reads Tryz.prog 9 [.plain (.one (.raw (u8 sk))), .plain (.one (.raw (u8 n)))] [stepsP] (XV.bool true) := by
  refine Reads.of Tryz.T_ok Tryz.func9 rfl _ _ _ rfl rfl (fun C hC => ?_)
  (replace hC : C.n0 = 3 := hC; change Tri _ _ _ ⟨_, _, 3⟩ _)
  (refine Tri.cut 4 Tryz.mixed Tryz.T_ok ?_; refine xZ ?_)
  (apply wP; exact (call_op rfl (entersB_of Tryz.func26 (by kernel_rfl)) rfl (awake15.at [2] trivial ⟨lend_ext (c := 2) rfl rfl, trivial⟩)); refine xZ ?_)
  have kf := fill14_can [900] (by decide)
  change Makes _ _ [.row 1 1 (intsF [900])] [] _ (.abs (PackP (fill14Pack [sideN 900]))) at kf
  have hst : ∀ stop b, Once stop b 4 (sideN 900) USet.empty := once_start
  generalize sideN 900 = x0 at kf hst
  (apply wP; exact (call_op rfl (entersB_of Tryz.func29 (by kernel_rfl)) rfl (kf.at [6] ⟨lend_vecN (lo := 0) rfl rfl rfl (Nat.le_refl _) (fun i hi => by obtain rfl := Nat.lt_one_iff.1 hi; rfl), trivial⟩ trivial)); refine xZ ?_)
  (apply wP; exact (call_op rfl (entersB_of Tryz.func19 (by kernel_rfl)) rfl (new_spec)); refine xZ ?_)
  refine wD <| cutG <| Tri.ent (Ent.unpack (c := 7) (l := fill14Pack [x0]) rfl) <| Tri.ent (S' := ⟨[some (XV.val (u8 sk)), some (XV.val (u8 n)), none, none, none, some (XV.sv (.ptr 3 0 0 0)), none, some (XV.sv (.ptr 4 0 0 0))] ++ List.replicate 149 none, poM x0 USet.empty, 5⟩) ?_ ?_
  · unfold poM
    ((try dsimp only); refine Ent.renC [0, 1, 2, 15, 13] hC ?_ ?_ <;> repeat' (first | exact trivial | exact rfl | exact ⟨_, rfl, rfl, rfl, Nat.le_refl _, fun _ _ => rfl⟩ | exact ⟨_, rfl, rfl, rfl, fun _ _ => rfl⟩ | exact ⟨_, rfl, rfl, rfl⟩ | exact ⟨_, rfl, rfl⟩ | refine ⟨_, rfl, rfl, rfl, by omega, fun k hk => ?_⟩ | refine ⟨?_, ?_⟩ | fail))
  unfold poM
  obtain ⟨stop, hstop⟩ : ∃ stop, sk.toNat % 6 = stop := ⟨_, rfl⟩
  obtain ⟨b, hb⟩ : ∃ b, n.toNat % 2 = b := ⟨_, rfl⟩
  have hs5 : stop ≤ 5 := by omega
  have hb1 : b ≤ 1 := by omega
  have nlt := n.toNat_lt
  have hsk : Int.tmod (IntKind.i64.wrap ((sk.toNat : Nat) : Int)) 6 = (stop : Int) := by
    have h3 := sk.toNat_lt
    have e1 : IntKind.i64.wrap ((sk.toNat : Nat) : Int) = ((sk.toNat : Nat) : Int) := wrap_id (by omega)
    rw [e1, ← hstop]; rfl
  have hnb : bitI .and .i64 (IntKind.i64.wrap ((n.toNat : Nat) : Int)) 1 = (b : Int) := by
    have e1 : IntKind.i64.wrap ((n.toNat : Nat) : Int) = ((n.toNat : Nat) : Int) := wrap_id (by omega)
    rw [e1, po_and1 _ nlt, hb]
  have hstart := hst stop b
  clear kf hst hstop hb
  (refine Tri.cut 3 Tryz.mixed Tryz.T_ok ?_; refine xZ ?_)
  simp only [hsk]
  refine wD <| cutG <| Tri.seq ?_
  (refine Tri.cut 1 Tryz.mixed Tryz.T_ok ?_; refine xZ ?_)
  refine wD <| cutG <| Tri.block ?_
  refine Tri.loop (α := OnceI stop b) (fun p => poSt n p.x.mat stop p.h p.x p.S) (fun p => 40 - p.h) ⟨4, x0, USet.empty, Nat.le_refl _, by decide, hstart⟩ ?_ ?_
  · unfold poSt poM
    dsimp only
    have hm0 : x0.mat = 0 := by rw [hstart.mat]; rw [show min (overN 4) stop = 0 from Nat.zero_min _]; rfl
    rw [hm0]
    ((try dsimp only); refine Ent.renC [0, 1, 2, 3, 4] hC ?_ ?_ <;> repeat' (first | exact trivial | exact rfl | exact ⟨_, rfl, rfl, rfl, Nat.le_refl _, fun _ _ => rfl⟩ | exact ⟨_, rfl, rfl, rfl, fun _ _ => rfl⟩ | exact ⟨_, rfl, rfl, rfl⟩ | exact ⟨_, rfl, rfl⟩ | refine ⟨_, rfl, rfl, rfl, by omega, fun k hk => ?_⟩ | refine ⟨?_, ?_⟩ | fail))
  rintro ⟨h, x, S, h4, h40, H⟩
  dsimp only
  unfold poSt poM
  (refine Tri.cut 1 Tryz.mixed Tryz.T_ok ?_; refine xZ ?_)
  refine wC (fun c0 => ?_) (fun c0 => ?_)
  · (refine xG ?_)
    have hlt : h < 40 := by
      have := of_decide_eq_true c0
      omega
    have hw : IntKind.i64.wrap ((h : Int) + 1) = ((h + 1 : Nat) : Int) := by
      rw [show (h : Int) + 1 = ((h + 1 : Nat) : Int) by omega]; exact wrap_id (by omega)
    obtain ⟨x1, x2, S2, f, hstep⟩ := once_step hb1 h4 hlt hs5 H
    have hms := mat_step H hstep.next h4 hlt
    have hnx := hstep.next
    have hhi : (Int64.ofNat h).toInt = (h : Int) := toInt_ofNat (by omega)
    obtain ⟨eI, heI⟩ : ∃ eI, IntKind.i64.wrap ((IntKind.i64.wrap ((h : Int) - 8)).tdiv 4) = eI := ⟨_, rfl⟩
    have e8 : 8 ≤ h → IntKind.i64.wrap ((h : Int) - 8) = ((h - 8 : Nat) : Int) := fun h8 => by
      rw [show (h : Int) - 8 = ((h - 8 : Nat) : Int) by omega]; exact wrap_id (by omega)
    have e9 : 9 ≤ h → IntKind.i64.wrap ((h : Int) - 9) = ((h - 9 : Nat) : Int) := fun h8 => by
      rw [show (h : Int) - 9 = ((h - 9 : Nat) : Int) by omega]; exact wrap_id (by omega)
    have heN : 8 ≤ h → eI = (((h - 8) / 4 : Nat) : Int) := fun h8 => by rw [← heI, e8 h8]; exact wrap_id (show -2 ^ 63 ≤ (((h - 8) / 4 : Nat) : Int) ∧ (((h - 8) / 4 : Nat) : Int) < 2 ^ 63 by omega)
    have hi8 : (((h : Nat) : Int)) = (Int64.ofNat h).toInt := hhi.symm
    refine wD <| cutG <| Tri.seq <| Tri.block ?_
    (refine Tri.cut 1 Tryz.mixed Tryz.T_ok ?_; refine xZ ?_)
    simp only [heI]
    refine wD <| cutG <| Tri.merge (poSt n x.mat stop h x1 S) (Tri.of Tryz.mixed Tryz.T_ok ?_) ?_
    · (refine xB ?_)
      refine wC (fun c1 => ?_) (fun c1 => ?_)
      · have h8 : 8 ≤ h := by have := of_decide_eq_true c1; omega
        (refine xG ?_)
        simp only [e8 h8, hnb]
        have ht8 : Int.tmod ((h - 8 : Nat) : Int) 4 = (((h - 8) % 4 : Nat) : Int) := rfl
        simp only [ht8]
        refine wC (fun c2 => ?_) (fun c2 => ?_)
        · have c2' : (h - 8) % 4 = b := by have := beq_iff_eq.1 c2; omega
          have hT : takes b h = true := by rw [takes, decide_eq_true_eq]; exact ⟨h8, c2'⟩
          (refine xG ?_)
          refine wC (fun c3 => ?_) (fun c3 => ?_)
          · have heq := heN h8
            have c3' : (h - 8) / 4 ≠ stop := by
              intro hq
              rw [heq, hq] at c3
              simp at c3
            have htk := hstep.take hT c3'
            have hfv := hstep.fval hT c3'
            obtain ⟨e, he⟩ : ∃ e, (h - 8) / 4 = e := ⟨_, rfl⟩
            rw [he] at heq htk hfv c3'
            have e10 : IntKind.i64.wrap (10 + (e : Int)) = 10 + (e : Int) := wrap_id (by omega)
            have hmk := make14_can (po e) (by show 1 ≤ 1000; decide) (by show 2 ≤ 100; decide)
            have ktake := ctake_can [x] (make14 (po e)) (h : Int) finH (fun i hi => by obtain rfl := Nat.lt_one_iff.1 hi; exact H.sized) (show 1 ≤ 1000 by decide) (by rw [po_outs]; decide) (by rw [po_sigs]; decide)
            rw [htk] at ktake
            dsimp only at ktake
            have hol := po_outs e
            have hsl := po_sigs e
            have ham : intsF (po e).ams 0 = [.int .i64 (10 + (e : Int))] := by
              rw [intsF, ams_get]
              show [Value.int .i64 (Int64.ofNat (10 + e)).toInt] = _
              rw [toInt_ofNat (by omega)]
              rfl
            (refine xG ?_)
            simp only [heq, e10]
            change Makes _ _ _ _ (.cv (.agg (certCells (make14 (po e)) (.ins 0 2 0 1) (.ins 0 2 1 2)))) (.abs (PackP [.vec 59 9 1 (outsF (make14 (po e)).outs), .vec 192 282 2 (sgdsF (make14 (po e)).sigs)])) at hmk
            generalize make14 (po e) = c at hmk ktake hol hsl
            clear htk
            (apply wP; exact (call_op rfl (entersB_of Tryz.func32 (by kernel_rfl)) rfl (hmk.at [30, 31] ⟨lend_plan14 (p := po e) (lend_vecN (lo := 0) rfl rfl rfl (Nat.le_refl _) (fun i hi => by obtain rfl := Nat.lt_one_iff.1 hi; exact ham)) (lend_vecN (lo := 0) rfl rfl rfl (Nat.le_refl _) (fun i hi => by match i, hi with | 0, _ => rfl | 1, _ => rfl)), trivial⟩ trivial)); refine xZ ?_)
            (apply wP; exact (call_op rfl (entersB_of Tryz.func33 (by kernel_rfl)) rfl (end14_can.at [] trivial trivial)); refine xZ ?_)
            (apply wP; exact (call_op rfl (entersB_of Tryz.func31 (by kernel_rfl)) rfl (ktake.at [33, 2] rfl rfl rfl ⟨lend_cert (c := c) (lend_insN (j := 0) hol.symm rfl rfl rfl rfl (by omega) (fun _ _ => rfl)) (lend_insN (j := 1) hsl.symm rfl rfl rfl rfl (by omega) (fun _ _ => rfl)), lend_plain rfl, lend_plain rfl, trivial⟩ ⟨lend_ext (c := 2) rfl rfl, trivial⟩)); refine xZ ?_)
            by_cases hes : e < stop
            · have hf0 : f = 0 := hfv.1 hes
              refine wFd (by rw [hf0, decide_eq_true (show (e : Int) < (stop : Int) by omega)]; rfl) ?_
              (refine xG ?_)
              refine wFd (by rw [hf0]; rfl) ?_
              (refine xG ?_)
              refine wD ⟨rfl, ?_⟩
              unfold poSt poM
              ((try dsimp only); refine Ent.renC [0, 1, 2, 3, 4] hC ?_ ?_ <;> repeat' (first | exact trivial | exact rfl | exact ⟨_, rfl, rfl, rfl, Nat.le_refl _, fun _ _ => rfl⟩ | exact ⟨_, rfl, rfl, rfl, fun _ _ => rfl⟩ | exact ⟨_, rfl, rfl, rfl⟩ | exact ⟨_, rfl, rfl⟩ | refine ⟨_, rfl, rfl, rfl, by omega, fun k hk => ?_⟩ | refine ⟨?_, ?_⟩ | fail))
            · have hf14 : f = 14 := hfv.2 (by omega)
              refine wFd (by rw [hf14, decide_eq_false (show ¬ (e : Int) < (stop : Int) by omega)]; rfl) ?_
              (refine xG ?_)
              refine wTd (by rw [hf14]; rfl) ?_
              (refine xG ?_)
              refine wFd (by rw [hf14]; rfl) ?_
              (refine xG ?_)
              refine wD ⟨rfl, ?_⟩
              unfold poSt poM
              ((try dsimp only); refine Ent.renC [0, 1, 2, 3, 4] hC ?_ ?_ <;> repeat' (first | exact trivial | exact rfl | exact ⟨_, rfl, rfl, rfl, Nat.le_refl _, fun _ _ => rfl⟩ | exact ⟨_, rfl, rfl, rfl, fun _ _ => rfl⟩ | exact ⟨_, rfl, rfl, rfl⟩ | exact ⟨_, rfl, rfl⟩ | refine ⟨_, rfl, rfl, rfl, by omega, fun k hk => ?_⟩ | refine ⟨?_, ?_⟩ | fail))
          · have hno : x1 = x := hstep.same fun hc => by
              have h9 := hc.2
              have := beq_iff_eq.1 (show (eI == (stop : Int)) = true by simpa using c3)
              rw [heN h8] at this
              omega
            (refine xG ?_)
            refine wD ⟨rfl, ?_⟩
            rw [hno]
            unfold poSt poM
            ((try dsimp only); refine Ent.renC [0, 1, 2, 3, 4] hC ?_ ?_ <;> repeat' (first | exact trivial | exact rfl | exact ⟨_, rfl, rfl, rfl, Nat.le_refl _, fun _ _ => rfl⟩ | exact ⟨_, rfl, rfl, rfl, fun _ _ => rfl⟩ | exact ⟨_, rfl, rfl, rfl⟩ | exact ⟨_, rfl, rfl⟩ | refine ⟨_, rfl, rfl, rfl, by omega, fun k hk => ?_⟩ | refine ⟨?_, ?_⟩ | fail))
        · have hno : x1 = x := hstep.same fun hc => by
            have h9 := hc.1
            rw [takes, decide_eq_true_eq] at h9
            have := beq_eq_false_iff_ne.1 c2
            omega
          (refine xG ?_)
          refine wD ⟨rfl, ?_⟩
          rw [hno]
          unfold poSt poM
          ((try dsimp only); refine Ent.renC [0, 1, 2, 3, 4] hC ?_ ?_ <;> repeat' (first | exact trivial | exact rfl | exact ⟨_, rfl, rfl, rfl, Nat.le_refl _, fun _ _ => rfl⟩ | exact ⟨_, rfl, rfl, rfl, fun _ _ => rfl⟩ | exact ⟨_, rfl, rfl, rfl⟩ | exact ⟨_, rfl, rfl⟩ | refine ⟨_, rfl, rfl, rfl, by omega, fun k hk => ?_⟩ | refine ⟨?_, ?_⟩ | fail))
      · have hno : x1 = x := hstep.same fun hc => by
          have h9 := hc.1
          rw [takes, decide_eq_true_eq] at h9
          have := of_decide_eq_false c1
          omega
        (refine xG ?_)
        refine wD ⟨rfl, ?_⟩
        rw [hno]
        unfold poSt poM
        ((try dsimp only); refine Ent.renC [0, 1, 2, 3, 4] hC ?_ ?_ <;> repeat' (first | exact trivial | exact rfl | exact ⟨_, rfl, rfl, rfl, Nat.le_refl _, fun _ _ => rfl⟩ | exact ⟨_, rfl, rfl, rfl, fun _ _ => rfl⟩ | exact ⟨_, rfl, rfl, rfl⟩ | exact ⟨_, rfl, rfl⟩ | refine ⟨_, rfl, rfl, rfl, by omega, fun k hk => ?_⟩ | refine ⟨?_, ?_⟩ | fail))
    have kend := end_can [x1] S (Int64.ofNat h) (fun i hi => by obtain rfl := Nat.lt_one_iff.1 hi; exact hstep.sized) (fun i hi => by obtain rfl := Nat.lt_one_iff.1 hi; exact hstep.outs) (show 1 ≤ 100 by decide) (by have := H.steps; rw [overN] at this; omega)
    rw [hstep.fin, hhi] at kend
    dsimp only at kend
    have hsz2 := hnx.sized
    have kin := side_in [x2] 0 Nat.one_pos hsz2
    rw [show [x2].getD 0 default = x2 from rfl] at kin
    have q9 : 9 ≤ h → IntKind.i64.wrap (Int.tdiv ((h - 9 : Nat) : Int) 4) = (((h - 9) / 4 : Nat) : Int) := fun h9 => wrap_id (show -2 ^ 63 ≤ (((h - 9) / 4 : Nat) : Int) ∧ (((h - 9) / 4 : Nat) : Int) < 2 ^ 63 by omega)
    have hm := mat10_le (n := min (overN h) stop) (by omega)
    have hxm := H.mat
    clear hstep
    unfold poSt poM
    (refine Tri.cut 1 Tryz.mixed Tryz.T_ok ?_; refine xZ ?_)
    (apply wP; exact (call_op rfl (entersB_of Tryz.func34 (by kernel_rfl)) rfl (kend.at2 [2] rfl rfl rfl rfl ⟨lend_plain rfl, trivial⟩ ⟨lend_ext (c := 2) rfl rfl, trivial⟩)); refine xZ ?_)
    refine wD <| cutG <| Tri.merge (poSt n x2.mat stop h x2 S2) (Tri.of Tryz.mixed Tryz.T_ok ?_) ?_
    · (refine xB ?_)
      refine wC (fun c1 => ?_) (fun c1 => ?_)
      · have h9 : 9 ≤ h := by have := of_decide_eq_true c1; omega
        have ht9 : Int.tmod ((h - 9 : Nat) : Int) 4 = (((h - 9) % 4 : Nat) : Int) := rfl
        (refine xG ?_)
        simp only [e9 h9, ht9]
        refine wC (fun c2 => ?_) (fun c2 => ?_)
        · have c2' : (h - 9) % 4 = 0 := by have := beq_iff_eq.1 c2; omega
          (refine xG ?_)
          simp only [e9 h9, q9 h9]
          refine wC (fun c3 => ?_) (fun c3 => ?_)
          · have c3' : (h - 9) / 4 < stop := by have := of_decide_eq_true c3; omega
            rw [if_pos ⟨h9, c2', c3'⟩] at hms
            have ep : IntKind.i64.wrap (IntKind.i64.wrap (x.mat + 10) + (((h - 9) / 4 : Nat) : Int)) = x2.mat := by
              rw [show IntKind.i64.wrap (x.mat + 10) = x.mat + 10 from wrap_id (by omega), hms]
              exact wrap_id (by omega)
            (refine xG ?_)
            simp only [e9 h9, q9 h9, ep]
            refine wD ⟨rfl, ?_⟩
            unfold poSt poM
            ((try dsimp only); refine Ent.renC [0, 1, 2, 3, 4] hC ?_ ?_ <;> repeat' (first | exact trivial | exact rfl | exact ⟨_, rfl, rfl, rfl, Nat.le_refl _, fun _ _ => rfl⟩ | exact ⟨_, rfl, rfl, rfl, fun _ _ => rfl⟩ | exact ⟨_, rfl, rfl, rfl⟩ | exact ⟨_, rfl, rfl⟩ | refine ⟨_, rfl, rfl, rfl, by omega, fun k hk => ?_⟩ | refine ⟨?_, ?_⟩ | fail))
          · rw [if_neg (fun hc => by have := of_decide_eq_false c3; omega)] at hms
            (refine xG ?_)
            refine wD ⟨rfl, ?_⟩
            rw [hms]
            unfold poSt poM
            ((try dsimp only); refine Ent.renC [0, 1, 2, 3, 4] hC ?_ ?_ <;> repeat' (first | exact trivial | exact rfl | exact ⟨_, rfl, rfl, rfl, Nat.le_refl _, fun _ _ => rfl⟩ | exact ⟨_, rfl, rfl, rfl, fun _ _ => rfl⟩ | exact ⟨_, rfl, rfl, rfl⟩ | exact ⟨_, rfl, rfl⟩ | refine ⟨_, rfl, rfl, rfl, by omega, fun k hk => ?_⟩ | refine ⟨?_, ?_⟩ | fail))
        · rw [if_neg (fun hc => by have := beq_eq_false_iff_ne.1 c2; omega)] at hms
          (refine xG ?_)
          refine wD ⟨rfl, ?_⟩
          rw [hms]
          unfold poSt poM
          ((try dsimp only); refine Ent.renC [0, 1, 2, 3, 4] hC ?_ ?_ <;> repeat' (first | exact trivial | exact rfl | exact ⟨_, rfl, rfl, rfl, Nat.le_refl _, fun _ _ => rfl⟩ | exact ⟨_, rfl, rfl, rfl, fun _ _ => rfl⟩ | exact ⟨_, rfl, rfl, rfl⟩ | exact ⟨_, rfl, rfl⟩ | refine ⟨_, rfl, rfl, rfl, by omega, fun k hk => ?_⟩ | refine ⟨?_, ?_⟩ | fail))
      · rw [if_neg (fun hc => by have := of_decide_eq_false c1; omega)] at hms
        (refine xG ?_)
        refine wD ⟨rfl, ?_⟩
        rw [hms]
        unfold poSt poM
        ((try dsimp only); refine Ent.renC [0, 1, 2, 3, 4] hC ?_ ?_ <;> repeat' (first | exact trivial | exact rfl | exact ⟨_, rfl, rfl, rfl, Nat.le_refl _, fun _ _ => rfl⟩ | exact ⟨_, rfl, rfl, rfl, fun _ _ => rfl⟩ | exact ⟨_, rfl, rfl, rfl⟩ | exact ⟨_, rfl, rfl⟩ | refine ⟨_, rfl, rfl, rfl, by omega, fun k hk => ?_⟩ | refine ⟨?_, ?_⟩ | fail))
    have kdue := due_can x2 ((h + 1 : Nat) : Int)
    have hce1 : x2.ceased = decide (9 + 4 * (stop : Int) ≤ (h : Int)) := by
      by_cases hc : stop < overN (h + 1)
      · rw [(hnx.gone hc).1, decide_eq_true (by rw [overN] at hc; omega)]
      · rw [hnx.goes (by omega), decide_eq_false (by rw [overN] at hc; omega)]
    have hce2 : x2.ceased = true → (dueX x2 ((h + 1 : Nat) : Int)).2 = false ∧ x2.hgt = 9 + 4 * (stop : Int) := fun hc => by
      refine ⟨by rw [due_ceased hc], ?_⟩
      have hov : stop < overN (h + 1) := by
        rcases Nat.lt_or_ge stop (overN (h + 1)) with h1 | h1
        · exact h1
        · rw [hnx.goes h1] at hc; cases hc
      rw [(hnx.gone hov).2]
      omega
    have htm : S2.total = x2.mat := by rw [hnx.tot, hnx.mat]
    have w4 : IntKind.i64.wrap (4 * (stop : Int)) = 4 * (stop : Int) := wrap_id (by omega)
    have w49 : IntKind.i64.wrap (9 + 4 * (stop : Int)) = 9 + 4 * (stop : Int) := wrap_id (by omega)
    obtain ⟨⟨dv, db⟩, hdp⟩ : ∃ p, dueX x2 ((h + 1 : Nat) : Int) = p := ⟨_, rfl⟩
    rw [hdp] at kdue hce2
    dsimp only at kdue hce2
    unfold poSt poM
    refine Tri.of Tryz.mixed Tryz.T_ok ?_
    (refine xB ?_)
    (apply wP; exact (call_op rfl (entersB_of Tryz.func22 (by kernel_rfl)) rfl (kin.at1 [] rfl rfl rfl ⟨lend_plain rfl, trivial⟩ trivial)); refine xZ ?_)
    simp only [hw]
    (apply wP; exact (call_op rfl (entersB_of Tryz.func27 (by kernel_rfl)) rfl (kdue.at [6] ⟨lend_side (x := x2) (lend_insN (j := 0) rfl rfl rfl rfl rfl (Nat.le_refl _) (fun _ _ => rfl)) (lend_insN (j := 1) rfl rfl rfl rfl rfl (Nat.le_refl _) (fun _ _ => rfl)) (lend_insN (j := 2) rfl rfl rfl rfl rfl (Nat.le_refl _) (fun _ _ => rfl)) (lend_insN (j := 3) rfl rfl rfl rfl rfl (Nat.le_refl _) (fun _ _ => rfl)), lend_plain rfl, trivial⟩ trivial)); refine xZ ?_)
    refine wFd (by simp) ?_
    (refine xG ?_)
    (apply wP; exact (call_op rfl (entersB_of Tryz.func23 (by kernel_rfl)) rfl (total_spec S2 (c0 := 4) rfl rfl)); refine xZ ?_)
    refine wFd (by rw [htm]; simp) ?_
    (refine xG ?_)
    simp only [w4, w49]
    refine wFd (by rw [hce1]; simp) ?_
    (refine xG ?_)
    refine wC (fun c5 => ?_) (fun c5 => ?_)
    · obtain ⟨c6, c7⟩ := hce2 c5
      (refine xG ?_)
      refine wFd c6 ?_
      (refine xG ?_)
      simp only [w4, w49]
      refine wFd (by rw [c7]; simp) ?_
      (refine xG ?_)
      refine wD <| blockN <| cutG <| Tri.of Tryz.mixed Tryz.T_ok ?_
      (refine xB ?_)
      refine wD <| loopN ⟨⟨h + 1, x2, S2, by omega, by omega, hnx⟩, by dsimp only; omega, ?_⟩
      rw [hw]
      ((try dsimp only); refine Ent.renC [0, 1, 2, 3, 4] hC ?_ ?_ <;> repeat' (first | exact trivial | exact rfl | exact ⟨_, rfl, rfl, rfl, Nat.le_refl _, fun _ _ => rfl⟩ | exact ⟨_, rfl, rfl, rfl, fun _ _ => rfl⟩ | exact ⟨_, rfl, rfl, rfl⟩ | exact ⟨_, rfl, rfl⟩ | refine ⟨_, rfl, rfl, rfl, by omega, fun k hk => ?_⟩ | refine ⟨?_, ?_⟩ | fail))
    · (refine xG ?_)
      refine wD <| blockN <| cutG <| Tri.of Tryz.mixed Tryz.T_ok ?_
      (refine xB ?_)
      refine wD <| loopN ⟨⟨h + 1, x2, S2, by omega, by omega, hnx⟩, by dsimp only; omega, ?_⟩
      rw [hw]
      ((try dsimp only); refine Ent.renC [0, 1, 2, 3, 4] hC ?_ ?_ <;> repeat' (first | exact trivial | exact rfl | exact ⟨_, rfl, rfl, rfl, Nat.le_refl _, fun _ _ => rfl⟩ | exact ⟨_, rfl, rfl, rfl, fun _ _ => rfl⟩ | exact ⟨_, rfl, rfl, rfl⟩ | exact ⟨_, rfl, rfl⟩ | refine ⟨_, rfl, rfl, rfl, by omega, fun k hk => ?_⟩ | refine ⟨?_, ?_⟩ | fail))
  · (refine xG ?_)
    refine wD <| cutE <| loopX <| blockX <| cutG <| Tri.of Tryz.mixed Tryz.T_ok ?_
    (refine xB ?_)
    exact wD (Ends.plain (.inr rfl) rfl rfl)
end Go.Proofs.YtnpkdoggfnlapaaGreatDoor
