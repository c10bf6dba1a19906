/- Parts Sa Sb Tab Vu Sc Money U0 Sd Se. -/
import Derived.Test.YtdeodhahkjgfiaaDoorG03
import Derived.Test.YtdeodhahkjgfiaaDoorG05
import Derived.Test.YtdeodhahkjgfiaaDoorG08
import Derived.Test.YtdeodhahkjgfiaaDoorG04
import Derived.Lib.ItoaNum
import Derived.Lib.AtoiAll
import Derived.Lib.Split
import Derived.Lib.SplitLaws
import Derived.Lib.Join
import Derived.Test.YtdeodhahkjgfiaaDoorRows
import Derived.Shelf.Strconv.ErrVarAll
import Derived.Shelf.Strconv.AtoiAll
import Derived.Shelf.Strconv.Itoa3
import Derived.Shelf.Strings.Split
import Derived.Shelf.Strings.OnBuilder
import Derived.Shelf.Strings.Repeat
import Derived.Shelf.Small.Strs
import Derived.Shelf.Bytes.IndexByte
import Derived.Ground.NamesProg
import Derived.Test.YtdeodhahkjgfiaaDoorProg
import Derived.WalkKit
import Derived.Laws.Externs
set_option linter.unusedSimpArgs false
set_option linter.unusedVariables false
namespace Go.Proofs.YtdeodhahkjgfiaaDoor
set_option maxRecDepth 100000
open Go.Sx
theorem parse10_append : ∀ {l r : List UInt8} {acc a : Nat}, Lib.parseUint10 acc l = .ok a → Lib.parseUint10 acc (l ++ r) = Lib.parseUint10 a r
  | [], r, acc, a, h => by
    simp only [Lib.parseUint10, Lib.NumEnd.ok.injEq] at h
    subst h; rfl
  | c :: l, r, acc, a, h => by
    simp only [List.cons_append, Lib.parseUint10] at h ⊢
    split at h
    · rename_i h1
      rw [if_pos h1]
      split at h
      · cases h
      · rename_i h2
        rw [if_neg h2]
        split at h
        · cases h
        · rename_i h3
          rw [if_neg h3]
          exact parse10_append h
    · cases h
theorem dig_toNat {k : Nat} (h : k < 10) : (UInt8.ofNat (48 + k)).toNat = 48 + k := by
  rw [UInt8.toNat_ofNat']; exact Nat.mod_eq_of_lt (by omega)
theorem parse10_dec (u : Nat) (hu : u < 18446744073709551616) : Lib.parseUint10 0 (Lib.decDigits u) = .ok u := by
  induction u using Nat.strongRecOn with
  | ind u ih =>
    rw [Lib.decDigits]
    split
    · rename_i h
      simp only [Lib.parseUint10, dig_toNat h]
      rw [if_pos (by omega), if_neg (by omega), if_neg (by omega)]
      congr 1; omega
    · rename_i h
      rw [parse10_append (ih (u / 10) (by omega) (by omega))]
      have hk : u % 10 < 10 := Nat.mod_lt _ (by decide)
      simp only [Lib.parseUint10, dig_toNat hk]
      rw [if_pos (by omega), if_neg (by omega), if_neg (by omega)]
      congr 1; omega
theorem dec_ne (u : Nat) : ∃ c r, Lib.decDigits u = c :: r ∧ 48 ≤ c.toNat ∧ c.toNat ≤ 57 := by
  induction u using Nat.strongRecOn with
  | ind u ih =>
    rw [Lib.decDigits]
    split
    · rename_i h
      exact ⟨_, [], rfl, by rw [dig_toNat h]; omega, by rw [dig_toNat h]; omega⟩
    · rename_i h
      obtain ⟨c, r, e, h1, h2⟩ := ih (u / 10) (by omega)
      exact ⟨c, r ++ [UInt8.ofNat (48 + u % 10)], by rw [e]; rfl, h1, h2⟩
theorem dec_all (u : Nat) : ∀ c ∈ Lib.decDigits u, 48 ≤ c.toNat ∧ c.toNat ≤ 57 := by
  induction u using Nat.strongRecOn with
  | ind u ih =>
    rw [Lib.decDigits]
    split
    · rename_i h
      intro c hc
      rw [List.mem_singleton.1 hc, dig_toNat h]; omega
    · rename_i h
      intro c hc
      rcases List.mem_append.1 hc with hc | hc
      · exact ih (u / 10) (by omega) c hc
      · rw [List.mem_singleton.1 hc, dig_toNat (Nat.mod_lt _ (by decide))]
        have : u % 10 < 10 := Nat.mod_lt _ (by decide)
        omega
theorem parseMag_dec (u : Nat) (hu : u < 18446744073709551616) : Lib.parseMag (Lib.decDigits u) = .ok u := by
  obtain ⟨c, r, e, _⟩ := dec_ne u
  rw [Lib.parseMag, if_neg (by rw [e]; simp), parse10_dec u hu]
theorem atoi_itoa (n : Int) (h0 : -9223372036854775808 ≤ n) (h1 : n ≤ 9223372036854775807) : Lib.atoiAll (Lib.itoa n) = .ok n := by
  unfold Lib.itoa
  split
  · rename_i h
    simp only [Lib.atoiAll]
    have e : (45 : UInt8).toNat = 45 := rfl
    rw [if_pos (by rw [e]; omega), parseMag_dec _ (by omega)]
    simp only [e, not_true_eq_false, false_and, if_false, true_and, if_true]
    rw [if_neg (by omega)]
    congr 1; omega
  · rename_i h
    obtain ⟨c, r, e, g1, g2⟩ := dec_ne n.toNat
    have hp := parseMag_dec n.toNat (by omega)
    rw [e] at hp ⊢
    simp only [Lib.atoiAll]
    rw [if_neg (by omega), hp]
    simp only
    rw [if_neg (by omega), if_neg (by omega), if_neg (by omega)]
    congr 1; omega
def numN (l : List UInt8) : Int := match Lib.atoiAll l with | .ok v => v | .range => Lib.atoiSat l | _ => 0
def numB (l : List UInt8) : Bool := match Lib.atoiAll l with | .ok v => decide (Lib.itoa v = l) | _ => false
theorem atoi_bounds {l : List UInt8} {v : Int} (h : Lib.atoiAll l = .ok v) : -9223372036854775808 ≤ v ∧ v ≤ 9223372036854775807 := by
  cases l with
  | nil => simp [Lib.atoiAll] at h
  | cons c r =>
    simp only [Lib.atoiAll] at h
    split at h
    · cases h
    · cases h
    · rename_i u hu
      split at h
      · cases h
      · split at h
        · cases h
        · cases h
          split <;> omega
theorem numN_bounds (l : List UInt8) : -9223372036854775808 ≤ numN l ∧ numN l ≤ 9223372036854775807 := by
  unfold numN
  split
  · rename_i v h; exact atoi_bounds h
  · unfold Lib.atoiSat; split <;> omega
  · omega
theorem num_itoa (n : Int) (h0 : -9223372036854775808 ≤ n) (h1 : n ≤ 9223372036854775807) : numN (Lib.itoa n) = n ∧ numB (Lib.itoa n) = true := by
  simp [numN, numB, atoi_itoa n h0 h1]
theorem numB_itoa {l : List UInt8} (h : numB l = true) : Lib.itoa (numN l) = l := by
  unfold numB at h
  unfold numN
  split at h
  · rename_i v hv
    simp only [hv]
    exact of_decide_eq_true h
  · cases h
theorem itoa_clean (n : Int) : ∀ c ∈ Lib.itoa n, c ≠ 10 ∧ c ≠ 32 := by
  intro c hc
  have key : ∀ u, c ∈ Lib.decDigits u → c ≠ 10 ∧ c ≠ 32 := fun u hu => by
    have := dec_all u c hu
    exact ⟨fun e => by rw [e] at this; exact absurd this.1 (by decide), fun e => by rw [e] at this; exact absurd this.1 (by decide)⟩
  unfold Lib.itoa at hc
  split at hc
  · rcases List.mem_cons.1 hc with rfl | hc
    · exact ⟨by decide, by decide⟩
    · exact key _ hc
  · exact key _ hc
theorem dec_len (u k : Nat) (h : u < 10 ^ (k + 1)) : (Lib.decDigits u).length ≤ k + 1 := by
  induction k generalizing u with
  | zero =>
    rw [Lib.decDigits, dif_pos (by simpa using h)]; simp
  | succ k ih =>
    rw [Lib.decDigits]
    split
    · simp
    · rw [List.length_append]
      have := ih (u / 10) (by rw [Nat.pow_succ] at h; omega)
      simp only [List.length_cons, List.length_nil]; omega
theorem itoa_len (n : Int) (h0 : -9223372036854775808 ≤ n) (h1 : n ≤ 9223372036854775807) : (Lib.itoa n).length ≤ 20 := by
  unfold Lib.itoa
  split
  · have := dec_len n.natAbs 18 (by omega)
    simp only [List.length_cons]; omega
  · have := dec_len n.toNat 18 (by omega)
    omega
def cutAt (c : UInt8) : List UInt8 → List (List UInt8)
  | [] => [[]]
  | x :: r => if x = c then [] :: cutAt c r else match cutAt c r with | [] => [[x]] | p :: q => (x :: p) :: q
theorem cutAt_ne (c : UInt8) : ∀ l, cutAt c l ≠ []
  | [] => by simp [cutAt]
  | x :: r => by
    simp only [cutAt]
    split
    · simp
    · split <;> simp
theorem cutAt_append {c : UInt8} {l : List UInt8} (h : ∀ x ∈ l, x ≠ c) (r : List UInt8) : cutAt c (l ++ c :: r) = l :: cutAt c r := by
  induction l with
  | nil => simp [cutAt]
  | cons x l ih =>
    have hx : x ≠ c := h x (by simp)
    simp only [List.cons_append, cutAt, if_neg hx]
    rw [ih (fun y hy => h y (by simp [hy]))]
theorem cutAt_clean {c : UInt8} {l : List UInt8} (h : ∀ x ∈ l, x ≠ c) : cutAt c l = [l] := by
  induction l with
  | nil => rfl
  | cons x l ih =>
    have hx : x ≠ c := h x (by simp)
    simp only [cutAt, if_neg hx]
    rw [ih (fun y hy => h y (by simp [hy]))]
theorem cutAt_join_of {c : UInt8} : ∀ {l : List (List UInt8)}, l ≠ [] → (∀ p ∈ l, ∀ x ∈ p, x ≠ c) → cutAt c (Lib.join l [c]) = l
  | [], h, _ => absurd rfl h
  | [p], _, h => by
    simp only [Lib.join, List.intercalate_singleton]
    exact cutAt_clean (h p (by simp))
  | p :: q :: r, _, h => by
    rw [Lib.join, List.intercalate_cons_cons, show [c].intercalate (q :: r) = Lib.join (q :: r) [c] from rfl, List.append_assoc, List.singleton_append]
    rw [cutAt_append (h p (by simp)), cutAt_join_of (by simp) (fun p' hp' => h p' (by simp [hp']))]
theorem index_one (c : UInt8) : ∀ l : List UInt8, Lib.index l [c] = if c ∈ l then ((l.idxOf c : Nat) : Int) else -1
  | [] => by simp [Lib.index]
  | x :: r => by
    rw [Lib.index, index_one c r]
    by_cases hx : x = c
    · subst hx; simp [List.isPrefixOf]
    · have hx' : ¬ c = x := fun e => hx e.symm
      have e1 : ([c] : List UInt8).isPrefixOf (x :: r) = false := by simp [List.isPrefixOf, hx']
      rw [if_neg (by rw [e1]; simp)]
      by_cases hm : c ∈ r
      · have e2 : List.idxOf c (x :: r) = List.idxOf c r + 1 := by rw [List.idxOf_cons, beq_eq_false_iff_ne.2 hx, cond_false]
        have e3 : c ∈ x :: r := by simp [hm]
        rw [if_pos hm, if_pos e3, e2, if_neg (by simp only [beq_iff_eq]; omega)]
        omega
      · have e3 : ¬ c ∈ x :: r := by simp [hx', hm]
        rw [if_neg hm, if_neg e3]
        rfl
theorem splitK_cut (c : UInt8) : ∀ (k : Nat) (l : List UInt8), l.count c = k → Lib.splitK [c] 0 k l = cutAt c l
  | 0, l, h => by
    rw [Lib.splitK, cutAt_clean (fun x hx e => by subst e; exact absurd h (by have := List.count_pos_iff.2 hx; omega))]
  | k + 1, l, h => by
    have hm : c ∈ l := List.count_pos_iff.1 (by omega)
    rw [Lib.splitK, index_one, if_pos hm, if_neg (by simp only [beq_iff_eq]; omega)]
    simp only [Int.toNat_natCast, Nat.add_zero, List.length_singleton]
    have hlt : l.idxOf c < l.length := List.idxOf_lt_length_of_mem hm
    have e0 : l = l.take (l.idxOf c) ++ c :: l.drop (l.idxOf c + 1) := by
      conv => lhs; rw [← List.take_append_drop (l.idxOf c) l]
      congr 1
      rw [List.drop_eq_getElem_cons hlt, List.getElem_idxOf]
    have hno : ∀ x ∈ l.take (l.idxOf c), x ≠ c := fun x hx e => by
      subst e
      obtain ⟨i, hi, hx'⟩ := List.mem_take_iff_getElem.1 hx
      have := List.not_of_lt_findIdx (p := (· == x)) (xs := l) (i := i) (by rw [List.idxOf] at hi; omega)
      simp [hx'] at this
    have hcnt : (l.drop (l.idxOf c + 1)).count c = k := by
      have := congrArg (List.count c) e0
      rw [List.count_append, List.count_cons_self, List.count_eq_zero.2 (fun hx => hno c hx rfl)] at this
      omega
    rw [splitK_cut c k _ hcnt]
    conv => rhs; rw [e0, cutAt_append hno]
set_option maxRecDepth 100000
open Go.Sx
def hexDig : List UInt8 := [48, 49, 50, 51, 52, 53, 54, 55, 56, 57, 97, 98, 99, 100, 101, 102]
def hx (n : Nat) : UInt8 := hexDig.getD n 0
def unhex (c : UInt8) : Int := Lib.indexByte hexDig c
theorem unhex_hx : ∀ n, n < 16 → unhex (hx n) = n := by decide
theorem hx_clean : ∀ n, n < 16 → hx n ≠ 10 ∧ hx n ≠ 32 ∧ hx n ≠ 46 ∧ hx n ≠ 110 := by decide
theorem hx_unhex {c : UInt8} {n : Nat} (h : unhex c = n) : n < 16 ∧ hx n = c := by
  obtain ⟨h1, _⟩ := Lib.indexByte_some h
  have hl : n < hexDig.length := (List.getElem?_eq_some_iff.1 h1).1
  refine ⟨hl, ?_⟩
  rw [hx, List.getD_eq_getElem?_getD, h1]; rfl
theorem unhex_lt (c : UInt8) : (unhex c).toNat < 16 := by
  rcases Int.lt_or_le (unhex c) 0 with h | h
  · omega
  · obtain ⟨n, hn⟩ := Int.eq_ofNat_of_zero_le h
    have := (hx_unhex hn).1
    omega
def isNan (w : Nat) : Bool := !fEq w w
def nanW : Nat := 9221120237041090561
def hexK : Nat → Nat → List UInt8
  | 0, _ => []
  | k + 1, u => hexK k (u / 16) ++ [hx (u % 16)]
theorem hexK_len : ∀ k u, (hexK k u).length = k
  | 0, _ => rfl
  | k + 1, u => by simp [hexK, hexK_len k]
theorem hexK_hx : ∀ (k u : Nat), ∀ c ∈ hexK k u, ∃ n, n < 16 ∧ c = hx n
  | 0, _, c, h => by cases h
  | k + 1, u, c, h => by
    rcases List.mem_append.1 h with h | h
    · exact hexK_hx k _ c h
    · exact ⟨u % 16, Nat.mod_lt _ (by decide), List.mem_singleton.1 h⟩
def valW (l : List UInt8) : Nat := l.foldl (fun a c => 16 * a + (unhex c).toNat) 0
theorem valW_snoc (l : List UInt8) (c : UInt8) : valW (l ++ [c]) = 16 * valW l + (unhex c).toNat := by simp [valW]
theorem valW_hexK : ∀ (k u : Nat), u < 16 ^ k → valW (hexK k u) = u
  | 0, u, h => by simp at h; subst h; rfl
  | k + 1, u, h => by
    rw [hexK, valW_snoc, valW_hexK k (u / 16) (by rw [Nat.pow_succ] at h; omega), unhex_hx _ (Nat.mod_lt _ (by decide))]
    simp only [Int.toNat_natCast]; omega
def digs (l : List UInt8) : Bool := l.all fun c => decide (0 ≤ unhex c)
theorem digs_hexK (k u : Nat) : digs (hexK k u) = true := by
  rw [digs, List.all_eq_true]
  intro c hc
  obtain ⟨n, hn, rfl⟩ := hexK_hx k u c hc
  rw [unhex_hx n hn]; exact decide_eq_true (Int.natCast_nonneg n)
def nanT : List UInt8 := [110, 97, 110]
def fltL (w : Nat) : List UInt8 := if isNan w then nanT else hexK 16 w
def fltN (l : List UInt8) : Nat := if l = nanT then nanW else if l.length = 16 ∧ digs l = true then valW l else 0
def fltB (l : List UInt8) : Bool := if l = nanT then true else decide (l.length = 16) && digs l && !isNan (fltN l)
def canW (w : Nat) : Nat := if isNan w then nanW else w
theorem flt_back (w : Nat) (hw : w < 18446744073709551616) : fltN (fltL w) = canW w ∧ fltB (fltL w) = true := by
  unfold fltL canW
  by_cases h : isNan w = true
  · rw [if_pos h, if_pos h]
    exact ⟨by simp [fltN], by simp [fltB]⟩
  · have hl := hexK_len 16 w
    have hne : hexK 16 w ≠ nanT := fun e => by rw [e] at hl; exact absurd hl (by decide)
    have hv := valW_hexK 16 w (by exact hw)
    have e : fltN (hexK 16 w) = w := by rw [fltN, if_neg hne, if_pos ⟨hl, digs_hexK _ _⟩, hv]
    rw [if_neg h, if_neg h]
    refine ⟨e, ?_⟩
    rw [fltB, if_neg hne, e, digs_hexK, decide_eq_true hl]
    simpa using h
theorem fltL_clean (w : Nat) : ∀ c ∈ fltL w, c ≠ 10 ∧ c ≠ 32 := by
  intro c hc
  unfold fltL at hc
  split at hc
  · simp only [nanT, List.mem_cons, List.not_mem_nil, or_false] at hc
    rcases hc with rfl | rfl | rfl <;> exact ⟨by decide, by decide⟩
  · obtain ⟨n, hn, rfl⟩ := hexK_hx 16 w c hc
    exact ⟨(hx_clean n hn).1, (hx_clean n hn).2.1⟩
theorem fltL_len (w : Nat) : (fltL w).length ≤ 16 := by
  unfold fltL
  split
  · decide
  · rw [hexK_len]; exact Nat.le_refl _
def hexs : List UInt8 → List UInt8
  | [] => []
  | x :: r => hx (x.toNat / 16) :: hx (x.toNat % 16) :: hexs r
def datL (l : List UInt8) : List UInt8 := if l = [] then [46] else hexs l
def unhexs : List UInt8 → List UInt8
  | a :: b :: r => UInt8.ofNat (16 * (unhex a).toNat + (unhex b).toNat) :: unhexs r
  | _ => []
def datB (l : List UInt8) : Bool := decide (l = [46]) || (decide (l ≠ []) && decide (l.length % 2 = 0) && digs l)
def datN (l : List UInt8) : List UInt8 := if l = [46] then [] else if datB l = true then unhexs l else []
theorem hexs_len : ∀ l, (hexs l).length = 2 * l.length
  | [] => rfl
  | x :: r => by simp only [hexs, List.length_cons, hexs_len r]; omega
theorem u8lt (x : UInt8) : x.toNat < 256 := x.toNat_lt
theorem unhexs_hexs : ∀ l, unhexs (hexs l) = l
  | [] => rfl
  | x :: r => by
    have h1 : x.toNat / 16 < 16 := by have := u8lt x; omega
    have h2 : x.toNat % 16 < 16 := Nat.mod_lt _ (by decide)
    rw [hexs, unhexs, unhex_hx _ h1, unhex_hx _ h2, unhexs_hexs r]
    simp only [Int.toNat_natCast]
    rw [show 16 * (x.toNat / 16) + x.toNat % 16 = x.toNat by omega]
    congr 1
    exact UInt8.ofNat_toNat
theorem digs_hexs : ∀ l, digs (hexs l) = true
  | [] => rfl
  | x :: r => by
    have h1 : x.toNat / 16 < 16 := by have := u8lt x; omega
    have h2 : x.toNat % 16 < 16 := Nat.mod_lt _ (by decide)
    have := digs_hexs r
    simp only [digs, hexs, List.all_cons, unhex_hx _ h1, unhex_hx _ h2] at this ⊢
    rw [this, decide_eq_true (Int.natCast_nonneg _), decide_eq_true (Int.natCast_nonneg _)]; rfl
theorem dat_back (l : List UInt8) : datN (datL l) = l ∧ datB (datL l) = true := by
  unfold datL
  split
  · rename_i e; subst e; exact ⟨rfl, rfl⟩
  · rename_i hne
    have hl := hexs_len l
    have hpos : 0 < l.length := by cases l with | nil => exact absurd rfl hne | cons x r => simp
    have h46 : hexs l ≠ [46] := fun e => by rw [e] at hl; simp at hl; omega
    have hne' : hexs l ≠ [] := fun e => by rw [e] at hl; simp at hl; omega
    have hb : datB (hexs l) = true := by
      rw [datB, decide_eq_false h46, decide_eq_true hne', hl, digs_hexs]
      simp
    exact ⟨by rw [datN, if_neg h46, if_pos hb, unhexs_hexs], hb⟩
theorem hexs_clean : ∀ l, ∀ c ∈ hexs l, c ≠ 10 ∧ c ≠ 32
  | [], c, h => by cases h
  | x :: r, c, h => by
    have h1 : x.toNat / 16 < 16 := by have := u8lt x; omega
    have h2 : x.toNat % 16 < 16 := Nat.mod_lt _ (by decide)
    simp only [hexs, List.mem_cons] at h
    rcases h with rfl | rfl | h
    · exact ⟨(hx_clean _ h1).1, (hx_clean _ h1).2.1⟩
    · exact ⟨(hx_clean _ h2).1, (hx_clean _ h2).2.1⟩
    · exact hexs_clean r c h
theorem datL_clean (l : List UInt8) : ∀ c ∈ datL l, c ≠ 10 ∧ c ≠ 32 := by
  intro c hc
  unfold datL at hc
  split at hc
  · rw [List.mem_singleton.1 hc]; exact ⟨by decide, by decide⟩
  · exact hexs_clean l c hc
theorem datL_len (l : List UInt8) : (datL l).length ≤ 2 * l.length + 1 := by
  unfold datL
  split
  · simp
  · rw [hexs_len]; omega
open Go.Sx
def Tryd.tab : List (Nat × TyD) := [
  (2, { size := 1, bytes := 8, agg := false, zero := [.int .i64 0], desc := .int .i64 }),
  (3, { size := 1, bytes := 8, agg := false, zero := [.int .i64 0], desc := .int .i64 }),
  (4, { size := 1, bytes := 1, agg := false, zero := [.bool false], desc := .bool }),
  (5, { size := 1, bytes := 1, agg := false, zero := [.int .u8 0], desc := .int .u8 }),
  (9, { size := 1, bytes := 16, agg := false, zero := [.string ByteArray.empty], desc := .str }),
  (12, { size := 1, bytes := 8, agg := false, zero := [.int .u64 0], desc := .int .u64 }),
  (21, { size := 1, bytes := 4, agg := false, zero := [.int .i32 0], desc := .int .i32 }),
  (67, { size := 1, bytes := 8, agg := false, zero := [.int .u64 0], desc := .int .u64 }),
  (69, { size := 1, bytes := 8, agg := false, zero := [.int .u64 0], desc := .int .u64 }),
  (122, { size := 1, bytes := 4, agg := false, zero := [.int .u32 0], desc := .int .u32 }),
  (22, { size := 1, bytes := 24, agg := false, zero := [.slice none 0 0], desc := .slice 43 }),
  (27, { size := 1, bytes := 24, agg := false, zero := [.slice none 0 0], desc := .slice 9 }),
  (28, { size := 1, bytes := 24, agg := false, zero := [.slice none 0 0], desc := .slice 45 }),
  (29, { size := 1, bytes := 8, agg := false, zero := [.int .i64 0], desc := .int .i64 }),
  (39, { size := 1, bytes := 8, agg := false, zero := [.float .f64 0], desc := .other }),
  (40, { size := 5, bytes := 40, agg := true, zero := List.replicate 5 (.int .i64 0), desc := .array 5 3 }),
  (41, { size := 1, bytes := 24, agg := false, zero := [.slice none 0 0], desc := .slice 5 }),
  (42, { size := 8, bytes := 80, agg := true, zero := List.replicate 6 (.int .i64 0) ++ [.float .f64 0] ++ [.slice none 0 0], desc := .struct [(3, 0), (3, 1), (3, 2), (3, 3), (3, 4), (3, 5), (39, 6), (41, 7)] }),
  (43, { size := 8, bytes := 80, agg := true, zero := List.replicate 6 (.int .i64 0) ++ [.float .f64 0] ++ [.slice none 0 0], desc := .struct [(3, 0), (3, 1), (3, 2), (3, 3), (3, 4), (3, 5), (39, 6), (41, 7)] }),
  (45, { size := 8, bytes := 80, agg := true, zero := List.replicate 6 (.int .i64 0) ++ [.float .f64 0] ++ [.slice none 0 0], desc := .struct [(3, 0), (3, 1), (3, 2), (3, 3), (3, 4), (3, 5), (39, 6), (41, 7)] }),
  (52, { size := 1, bytes := 8, agg := false, zero := [.pointer none], desc := .ptr }),
  (53, { size := 2, bytes := 32, agg := true, zero := [.pointer none] ++ [.slice none 0 0], desc := .struct [(52, 0), (41, 1)] }),
  (54, { size := 2, bytes := 32, agg := true, zero := [.pointer none] ++ [.slice none 0 0], desc := .struct [(52, 0), (41, 1)] }),
  (64, { size := 8, bytes := 8, agg := true, zero := List.replicate 8 (.int .u8 0), desc := .array 8 5 }),
  (73, { size := 1, bytes := 8, agg := false, zero := [.pointer none], desc := .ptr }),
  (74, { size := 1, bytes := 24, agg := false, zero := [.slice none 0 0], desc := .slice 73 }),
  (83, { size := 1, bytes := 8, agg := false, zero := [.pointer none], desc := .ptr }),
  (87, { size := 8, bytes := 8, agg := true, zero := List.replicate 8 (.int .u8 0), desc := .array 8 5 }),
  (94, { size := 1, bytes := 24, agg := false, zero := [.slice none 0 0], desc := .slice 3 }),
  (112, { size := 1, bytes := 8, agg := false, zero := [.pointer none], desc := .ptr }),
  (117, { size := 24, bytes := 24, agg := true, zero := List.replicate 24 (.int .u8 0), desc := .array 24 5 }),
  (127, { size := 256, bytes := 256, agg := true, zero := List.replicate 256 (.int .u8 0), desc := .array 256 5 }),
  (128, { size := 2, bytes := 2, agg := true, zero := [.int .u8 0, .int .u8 0], desc := .struct [(5, 0), (5, 1)] }),
  (129, { size := 2, bytes := 2, agg := true, zero := [.int .u8 0, .int .u8 0], desc := .struct [(5, 0), (5, 1)] }),
  (130, { size := 32, bytes := 32, agg := true, zero := List.replicate 32 (.int .u8 0), desc := .array 16 129 }),
  (135, { size := 3, bytes := 48, agg := true, zero := [.string ByteArray.empty, .string ByteArray.empty] ++ [.nilIface], desc := .struct [(9, 0), (9, 1), (59, 2)] }),
  (136, { size := 3, bytes := 48, agg := true, zero := [.string ByteArray.empty, .string ByteArray.empty] ++ [.nilIface], desc := .struct [(9, 0), (9, 1), (59, 2)] }),
  (139, { size := 20, bytes := 160, agg := true, zero := List.replicate 20 (.int .u64 0), desc := .array 20 67 }),
  (140, { size := 65, bytes := 65, agg := true, zero := List.replicate 65 (.int .u8 0), desc := .array 65 5 }),
  (145, { size := 1, bytes := 8, agg := false, zero := [.pointer none], desc := .ptr }),
  (146, { size := 1, bytes := 16, agg := true, zero := [.string ByteArray.empty], desc := .struct [(9, 0)] }),
  (147, { size := 1, bytes := 16, agg := true, zero := [.string ByteArray.empty], desc := .struct [(9, 0)] }),
  (149, { size := 32, bytes := 32, agg := true, zero := List.replicate 32 (.int .u8 0), desc := .array 32 5 }),
  (150, { size := 64, bytes := 64, agg := true, zero := List.replicate 64 (.int .u8 0), desc := .array 64 5 })]
abbrev Tryd.T : TyTab := tlook Tryd.tab
theorem Tryd.T_ok : TabOK Tryd.prog Tryd.T := tab_ok (by kernel_rfl)
theorem Tryd.mixed : Tryd.prog.follows .mixedOrders = true := by kernel_rfl
open Go.Sx
theorem xI {C : Sx.Ctx} {c : Code} {S : Sx.St} {Q : Exit → Sx.St → Prop} (h : wpT Tryd.prog C Q (evalC (stepOp Tryd.T) c S Tree.done)) : Tri Tryd.prog C c S Q := Tri.of Tryd.mixed Tryd.T_ok h
theorem xK (n : Nat) {C : Sx.Ctx} {c : Code} {S : Sx.St} {Q : Exit → Sx.St → Prop} {q : Prop} (h : q) (e : q → wpN Tryd.prog C (cutQ Tryd.prog C (dropC n c) Q) (stepOp Tryd.T) (stK S fun S => run (stepOp Tryd.T) 4000 (.ex .normal S ((takeC n c).map Fr.seq))) := by (intro h; (conv => arg 5; whnf); (repeat (refine xS ?_; conv => arg 5; whnf)); exact h)) : Tri Tryd.prog C c S Q := Tri.cut n Tryd.mixed Tryd.T_ok (e h)
end Go.Proofs.YtdeodhahkjgfiaaDoor
namespace Go.Proofs
open Go.Shelf
def Tryd.split_ren : Go.Shelf.Ren := ⟨fun | 146 => 19 | 221 => 29 | 268 => 40 | 138 => 41 | 143 => 42 | 195 => 54 | 197 => 55 | 218 => 56 | 219 => 57 | 260 => 68 | 217 => 63 | 225 => 69 | 224 => 70 | 267 => 71 | 266 => 79 | 314 => 88 | n => n, fun | 9 => 9 | 31 => 27 | 3 => 3 | 4 => 4 | 0 => 0 | 105 => 100 | 21 => 21 | 5 => 5 | 46 => 69 | 119 => 127 | 139 => 130 | 138 => 129 | 146 => 123 | 51 => 122 | n => n, fun | 1 => 1 | 3 => 2 | 4 => 3 | n => n⟩
theorem Tryd.split : Go.Proofs.Lays.n146 Tryd.prog Tryd.split_ren := {
  mixed := by kernel_rfl
  f138 := Tryd.func41.trans (congrArg some (by kernel_rfl))
  f143 := Tryd.func42.trans (congrArg some (by kernel_rfl))
  f146 := Tryd.func19.trans (congrArg some (by kernel_rfl))
  f195 := Tryd.func54.trans (congrArg some (by kernel_rfl))
  f197 := Tryd.func55.trans (congrArg some (by kernel_rfl))
  f217 := Tryd.func63.trans (congrArg some (by kernel_rfl))
  f218 := Tryd.func56.trans (congrArg some (by kernel_rfl))
  f219 := Tryd.func57.trans (congrArg some (by kernel_rfl))
  f221 := Tryd.func29.trans (congrArg some (by kernel_rfl))
  f224 := Tryd.func70.trans (congrArg some (by kernel_rfl))
  f225 := Tryd.func69.trans (congrArg some (by kernel_rfl))
  f260 := Tryd.func68.trans (congrArg some (by kernel_rfl))
  f266 := Tryd.func79.trans (congrArg some (by kernel_rfl))
  f267 := Tryd.func71.trans (congrArg some (by kernel_rfl))
  f268 := Tryd.func40.trans (congrArg some (by kernel_rfl))
  f314 := Tryd.func88.trans (congrArg some (by kernel_rfl))
  t0 := Tryd.underlying0
  a0 := Tryd.isAgg0
  z0 := Tryd.sizeOf0
  v0 := Tryd.zeroValue0
  t3 := Tryd.underlying3
  a3 := Tryd.isAgg3
  z3 := Tryd.sizeOf3
  v3 := Tryd.zeroValue3
  t4 := Tryd.underlying4
  a4 := Tryd.isAgg4
  z4 := Tryd.sizeOf4
  v4 := Tryd.zeroValue4
  t5 := Tryd.underlying5
  a5 := Tryd.isAgg5
  z5 := Tryd.sizeOf5
  v5 := Tryd.zeroValue5
  t9 := Tryd.underlying9
  a9 := Tryd.isAgg9
  z9 := Tryd.sizeOf9
  v9 := Tryd.zeroValue9
  t21 := Tryd.underlying21
  a21 := Tryd.isAgg21
  z21 := Tryd.sizeOf21
  v21 := Tryd.zeroValue21
  t31 := Tryd.underlying27
  a31 := Tryd.isAgg27
  z31 := Tryd.sizeOf27
  v31 := Tryd.zeroValue27
  t46 := Tryd.underlying69
  a46 := Tryd.isAgg69
  z46 := Tryd.sizeOf69
  v46 := Tryd.zeroValue69
  t51 := Tryd.underlying122
  a51 := Tryd.isAgg122
  z51 := Tryd.sizeOf122
  v51 := Tryd.zeroValue122
  t105 := Tryd.underlying100
  a105 := Tryd.isAgg100
  z105 := Tryd.sizeOf100
  v105 := Tryd.zeroValue100
  t119 := Tryd.underlying127
  a119 := Tryd.isAgg127
  z119 := Tryd.sizeOf127
  t138 := Tryd.underlying129
  a138 := Tryd.isAgg129
  z138 := Tryd.sizeOf129
  v138 := Tryd.zeroValue129
  t139 := Tryd.underlying130
  a139 := Tryd.isAgg130
  z139 := Tryd.sizeOf130
  v139 := Tryd.zeroValue130
  t146 := Tryd.underlying123
  a146 := Tryd.isAgg123
  z146 := Tryd.sizeOf123
  v146 := Tryd.zeroValue123
  g1 := by kernel_rfl
  g3 := by kernel_rfl
  g4 := by kernel_rfl }
def Tryd.join_ren : Go.Shelf.Ren := ⟨fun | 156 => 35 | 165 => 50 | 166 => 23 | 169 => 24 | 240 => 39 | 241 => 64 | 276 => 53 | 277 => 80 | n => n, fun | 31 => 27 | 9 => 9 | 3 => 3 | 4 => 4 | 0 => 0 | 20 => 20 | 72 => 54 | 76 => 60 | 70 => 52 | 37 => 41 | 75 => 59 | 127 => 83 | 164 => 97 | 5 => 5 | 80 => 62 | n => n, fun | n => n⟩
theorem Tryd.join : Go.Proofs.Lays.n156 Tryd.prog Tryd.join_ren := {
  mixed := by kernel_rfl
  f156 := Tryd.func35.trans (congrArg some (by kernel_rfl))
  f165 := Tryd.func50.trans (congrArg some (by kernel_rfl))
  f166 := Tryd.func23.trans (congrArg some (by kernel_rfl))
  f169 := Tryd.func24.trans (congrArg some (by kernel_rfl))
  f240 := Tryd.func39.trans (congrArg some (by kernel_rfl))
  f241 := Tryd.func64.trans (congrArg some (by kernel_rfl))
  f276 := Tryd.func53.trans (congrArg some (by kernel_rfl))
  f277 := Tryd.func80.trans (congrArg some (by kernel_rfl))
  t0 := Tryd.underlying0
  a0 := Tryd.isAgg0
  z0 := Tryd.sizeOf0
  v0 := Tryd.zeroValue0
  t3 := Tryd.underlying3
  a3 := Tryd.isAgg3
  z3 := Tryd.sizeOf3
  v3 := Tryd.zeroValue3
  t4 := Tryd.underlying4
  a4 := Tryd.isAgg4
  z4 := Tryd.sizeOf4
  v4 := Tryd.zeroValue4
  t9 := Tryd.underlying9
  a9 := Tryd.isAgg9
  z9 := Tryd.sizeOf9
  v9 := Tryd.zeroValue9
  t20 := Tryd.underlying20
  a20 := Tryd.isAgg20
  z20 := Tryd.sizeOf20
  v20 := Tryd.zeroValue20
  t31 := Tryd.underlying27
  a31 := Tryd.isAgg27
  z31 := Tryd.sizeOf27
  v31 := Tryd.zeroValue27
  t37 := Tryd.underlying41
  a37 := Tryd.isAgg41
  z37 := Tryd.sizeOf41
  v37 := Tryd.zeroValue41
  t70 := Tryd.underlying52
  a70 := Tryd.isAgg52
  z70 := Tryd.sizeOf52
  v70 := Tryd.zeroValue52
  t72 := Tryd.underlying54
  a72 := Tryd.isAgg54
  z72 := Tryd.sizeOf54
  v72 := Tryd.zeroValue54
  t75 := Tryd.underlying59
  a75 := Tryd.isAgg59
  z75 := Tryd.sizeOf59
  v75 := Tryd.zeroValue59
  t76 := Tryd.underlying60
  a76 := Tryd.isAgg60
  z76 := Tryd.sizeOf60
  v76 := Tryd.zeroValue60
  t127 := Tryd.underlying83
  a127 := Tryd.isAgg83
  z127 := Tryd.sizeOf83
  v127 := Tryd.zeroValue83
  t164 := Tryd.underlying97
  a164 := Tryd.isAgg97
  z164 := Tryd.sizeOf97
  v164 := Tryd.zeroValue97 }
def Tryd.idxb_ren : Go.Shelf.Ren := ⟨fun | 137 => 49 | 217 => 63 | 266 => 79 | n => n, fun | 9 => 9 | 5 => 5 | 3 => 3 | n => n, fun | n => n⟩
theorem Tryd.idxb : Go.Proofs.Lays.n137 Tryd.prog Tryd.idxb_ren := {
  mixed := by kernel_rfl
  f137 := Tryd.func49.trans (congrArg some (by kernel_rfl))
  f217 := Tryd.func63.trans (congrArg some (by kernel_rfl))
  f266 := Tryd.func79.trans (congrArg some (by kernel_rfl))
  t3 := Tryd.underlying3
  a3 := Tryd.isAgg3
  z3 := Tryd.sizeOf3
  v3 := Tryd.zeroValue3
  t5 := Tryd.underlying5
  a5 := Tryd.isAgg5
  z5 := Tryd.sizeOf5
  v5 := Tryd.zeroValue5
  t9 := Tryd.underlying9
  a9 := Tryd.isAgg9
  z9 := Tryd.sizeOf9
  v9 := Tryd.zeroValue9 }
def Tryd.bidx_ren : Go.Shelf.Ren := ⟨fun | 187 => 62 | 255 => 78 | n => n, fun | 37 => 41 | 5 => 5 | 3 => 3 | n => n, fun | n => n⟩
theorem Tryd.bidx : Go.Proofs.Lays.n187 Tryd.prog Tryd.bidx_ren := {
  mixed := by kernel_rfl
  f187 := Tryd.func62.trans (congrArg some (by kernel_rfl))
  f255 := Tryd.func78.trans (congrArg some (by kernel_rfl))
  t3 := Tryd.underlying3
  a3 := Tryd.isAgg3
  z3 := Tryd.sizeOf3
  v3 := Tryd.zeroValue3
  t5 := Tryd.underlying5
  a5 := Tryd.isAgg5
  z5 := Tryd.sizeOf5
  v5 := Tryd.zeroValue5
  t37 := Tryd.underlying41
  a37 := Tryd.isAgg41
  z37 := Tryd.sizeOf41
  v37 := Tryd.zeroValue41 }
def Tryd.itoa_ren : Go.Shelf.Ren := ⟨fun | 171 => 44 | 243 => 60 | 246 => 77 | 283 => 81 | 284 => 82 | 285 => 83 | 286 => 84 | 129 => 93 | 317 => 92 | 318 => 94 | 319 => 95 | 320 => 96 | 337 => 99 | 338 => 100 | n => n, fun | 3 => 3 | 9 => 9 | 2 => 2 | 4 => 4 | 171 => 117 | 0 => 0 | 53 => 67 | 37 => 41 | 5 => 5 | 173 => 120 | 212 => 139 | 51 => 122 | 20 => 20 | 213 => 140 | 46 => 69 | 232 => 149 | 233 => 150 | n => n, fun | 17 => 6 | 18 => 7 | 19 => 8 | n => n⟩
theorem Tryd.itoa : Go.Proofs.LaysM.n171 Tryd.prog Tryd.itoa_ren := {
  mixed := by kernel_rfl
  f129 := Tryd.func93.trans (congrArg some (by kernel_rfl))
  f171 := Tryd.func44.trans (congrArg some (by kernel_rfl))
  f243 := Tryd.func60.trans (congrArg some (by kernel_rfl))
  f246 := Tryd.func77.trans (congrArg some (by kernel_rfl))
  f283 := Tryd.func81.trans (congrArg some (by kernel_rfl))
  f284 := Tryd.func82.trans (congrArg some (by kernel_rfl))
  f285 := Tryd.func83.trans (congrArg some (by kernel_rfl))
  f286 := Tryd.func84.trans (congrArg some (by kernel_rfl))
  f317 := Tryd.func92.trans (congrArg some (by kernel_rfl))
  f318 := Tryd.func94.trans (congrArg some (by kernel_rfl))
  f319 := Tryd.func95.trans (congrArg some (by kernel_rfl))
  f320 := Tryd.func96.trans (congrArg some (by kernel_rfl))
  f337 := Tryd.func99.trans (congrArg some (by kernel_rfl))
  f338 := Tryd.func100.trans (congrArg some (by kernel_rfl))
  t0 := Tryd.underlying0
  a0 := Tryd.isAgg0
  z0 := Tryd.sizeOf0
  v0 := Tryd.zeroValue0
  t2 := Tryd.underlying2
  a2 := Tryd.isAgg2
  z2 := Tryd.sizeOf2
  v2 := Tryd.zeroValue2
  t3 := Tryd.underlying3
  a3 := Tryd.isAgg3
  z3 := Tryd.sizeOf3
  v3 := Tryd.zeroValue3
  t4 := Tryd.underlying4
  a4 := Tryd.isAgg4
  z4 := Tryd.sizeOf4
  v4 := Tryd.zeroValue4
  t5 := Tryd.underlying5
  a5 := Tryd.isAgg5
  z5 := Tryd.sizeOf5
  v5 := Tryd.zeroValue5
  t9 := Tryd.underlying9
  a9 := Tryd.isAgg9
  z9 := Tryd.sizeOf9
  v9 := Tryd.zeroValue9
  t20 := Tryd.underlying20
  a20 := Tryd.isAgg20
  z20 := Tryd.sizeOf20
  v20 := Tryd.zeroValue20
  t37 := Tryd.underlying41
  a37 := Tryd.isAgg41
  z37 := Tryd.sizeOf41
  v37 := Tryd.zeroValue41
  t46 := Tryd.underlying69
  a46 := Tryd.isAgg69
  z46 := Tryd.sizeOf69
  v46 := Tryd.zeroValue69
  t51 := Tryd.underlying122
  a51 := Tryd.isAgg122
  z51 := Tryd.sizeOf122
  v51 := Tryd.zeroValue122
  t53 := Tryd.underlying67
  a53 := Tryd.isAgg67
  z53 := Tryd.sizeOf67
  v53 := Tryd.zeroValue67
  t171 := Tryd.underlying117
  a171 := Tryd.isAgg117
  z171 := Tryd.sizeOf117
  v171 := Tryd.zeroValue117
  t173 := Tryd.underlying120
  a173 := Tryd.isAgg120
  z173 := Tryd.sizeOf120
  v173 := Tryd.zeroValue120
  t212 := Tryd.underlying139
  a212 := Tryd.isAgg139
  z212 := Tryd.sizeOf139
  v212 := Tryd.zeroValue139
  t213 := Tryd.underlying140
  a213 := Tryd.isAgg140
  z213 := Tryd.sizeOf140
  t232 := Tryd.underlying149
  a232 := Tryd.isAgg149
  z232 := Tryd.sizeOf149
  v232 := Tryd.zeroValue149
  t233 := Tryd.underlying150
  a233 := Tryd.isAgg150
  z233 := Tryd.sizeOf150
  v233 := Tryd.zeroValue150
  g17 := by kernel_rfl
  g18 := by kernel_rfl
  g19 := by kernel_rfl
  i0 := by kernel_rfl
  i2 := by kernel_rfl
  i3 := by kernel_rfl
  i4 := by kernel_rfl
  i5 := by kernel_rfl
  i9 := by kernel_rfl
  i20 := by kernel_rfl
  i37 := by kernel_rfl
  i46 := by kernel_rfl
  i51 := by kernel_rfl
  i53 := by kernel_rfl
  i171 := by kernel_rfl
  i173 := by kernel_rfl
  i212 := by kernel_rfl
  i232 := by kernel_rfl
  i233 := by kernel_rfl
  m17 := by kernel_rfl
  m18 := by kernel_rfl
  m19 := by kernel_rfl }
def Tryd.atoi_ren : Go.Shelf.Ren := ⟨fun | 172 => 43 | 244 => 58 | 245 => 59 | 247 => 72 | 279 => 73 | 280 => 74 | 281 => 75 | 282 => 76 | 287 => 89 | 316 => 90 | 171 => 44 | 205 => 91 | 321 => 97 | 322 => 98 | 243 => 60 | 246 => 77 | 283 => 81 | 284 => 82 | 285 => 83 | 286 => 84 | 129 => 93 | 317 => 92 | 318 => 94 | 319 => 95 | 320 => 96 | 337 => 99 | 338 => 100 | n => n, fun | 9 => 9 | 3 => 3 | 75 => 59 | 76 => 60 | 4 => 4 | 5 => 5 | 167 => 109 | 37 => 41 | 0 => 0 | 85 => 110 | 2 => 2 | 168 => 112 | 53 => 67 | 175 => 132 | 46 => 69 | 210 => 136 | 127 => 83 | 145 => 147 | 143 => 145 | 21 => 21 | 171 => 117 | 173 => 120 | 212 => 139 | 51 => 122 | 20 => 20 | 213 => 140 | 232 => 149 | 233 => 150 | 80 => 62 | n => n, fun | 15 => 4 | 16 => 5 | 17 => 6 | 18 => 7 | 19 => 8 | n => n⟩
theorem Tryd.atoi : Go.Proofs.LaysC.n172 Tryd.prog Tryd.atoi_ren := {
  mixed := by kernel_rfl
  f129 := Tryd.func93.trans (congrArg some (by kernel_rfl))
  f171 := Tryd.func44.trans (congrArg some (by kernel_rfl))
  f172 := Tryd.func43.trans (congrArg some (by kernel_rfl))
  f205 := Tryd.func91.trans (congrArg some (by kernel_rfl))
  f243 := Tryd.func60.trans (congrArg some (by kernel_rfl))
  f244 := Tryd.func58.trans (congrArg some (by kernel_rfl))
  f245 := Tryd.func59.trans (congrArg some (by kernel_rfl))
  f246 := Tryd.func77.trans (congrArg some (by kernel_rfl))
  f247 := Tryd.func72.trans (congrArg some (by kernel_rfl))
  f279 := Tryd.func73.trans (congrArg some (by kernel_rfl))
  f280 := Tryd.func74.trans (congrArg some (by kernel_rfl))
  f281 := Tryd.func75.trans (congrArg some (by kernel_rfl))
  f282 := Tryd.func76.trans (congrArg some (by kernel_rfl))
  f283 := Tryd.func81.trans (congrArg some (by kernel_rfl))
  f284 := Tryd.func82.trans (congrArg some (by kernel_rfl))
  f285 := Tryd.func83.trans (congrArg some (by kernel_rfl))
  f286 := Tryd.func84.trans (congrArg some (by kernel_rfl))
  f287 := Tryd.func89.trans (congrArg some (by kernel_rfl))
  f316 := Tryd.func90.trans (congrArg some (by kernel_rfl))
  f317 := Tryd.func92.trans (congrArg some (by kernel_rfl))
  f318 := Tryd.func94.trans (congrArg some (by kernel_rfl))
  f319 := Tryd.func95.trans (congrArg some (by kernel_rfl))
  f320 := Tryd.func96.trans (congrArg some (by kernel_rfl))
  f321 := Tryd.func97.trans (congrArg some (by kernel_rfl))
  f322 := Tryd.func98.trans (congrArg some (by kernel_rfl))
  f337 := Tryd.func99.trans (congrArg some (by kernel_rfl))
  f338 := Tryd.func100.trans (congrArg some (by kernel_rfl))
  t0 := Tryd.underlying0
  a0 := Tryd.isAgg0
  z0 := Tryd.sizeOf0
  v0 := Tryd.zeroValue0
  t2 := Tryd.underlying2
  a2 := Tryd.isAgg2
  z2 := Tryd.sizeOf2
  v2 := Tryd.zeroValue2
  t3 := Tryd.underlying3
  a3 := Tryd.isAgg3
  z3 := Tryd.sizeOf3
  v3 := Tryd.zeroValue3
  t4 := Tryd.underlying4
  a4 := Tryd.isAgg4
  z4 := Tryd.sizeOf4
  v4 := Tryd.zeroValue4
  t5 := Tryd.underlying5
  a5 := Tryd.isAgg5
  z5 := Tryd.sizeOf5
  v5 := Tryd.zeroValue5
  t9 := Tryd.underlying9
  a9 := Tryd.isAgg9
  z9 := Tryd.sizeOf9
  v9 := Tryd.zeroValue9
  t20 := Tryd.underlying20
  a20 := Tryd.isAgg20
  z20 := Tryd.sizeOf20
  v20 := Tryd.zeroValue20
  t21 := Tryd.underlying21
  a21 := Tryd.isAgg21
  z21 := Tryd.sizeOf21
  v21 := Tryd.zeroValue21
  t37 := Tryd.underlying41
  a37 := Tryd.isAgg41
  z37 := Tryd.sizeOf41
  v37 := Tryd.zeroValue41
  t46 := Tryd.underlying69
  a46 := Tryd.isAgg69
  z46 := Tryd.sizeOf69
  v46 := Tryd.zeroValue69
  t51 := Tryd.underlying122
  a51 := Tryd.isAgg122
  z51 := Tryd.sizeOf122
  v51 := Tryd.zeroValue122
  t53 := Tryd.underlying67
  a53 := Tryd.isAgg67
  z53 := Tryd.sizeOf67
  v53 := Tryd.zeroValue67
  t75 := Tryd.underlying59
  a75 := Tryd.isAgg59
  z75 := Tryd.sizeOf59
  v75 := Tryd.zeroValue59
  t76 := Tryd.underlying60
  a76 := Tryd.isAgg60
  z76 := Tryd.sizeOf60
  v76 := Tryd.zeroValue60
  t85 := Tryd.underlying110
  a85 := Tryd.isAgg110
  z85 := Tryd.sizeOf110
  v85 := Tryd.zeroValue110
  t127 := Tryd.underlying83
  a127 := Tryd.isAgg83
  z127 := Tryd.sizeOf83
  v127 := Tryd.zeroValue83
  t143 := Tryd.underlying145
  a143 := Tryd.isAgg145
  z143 := Tryd.sizeOf145
  v143 := Tryd.zeroValue145
  t145 := Tryd.underlying147
  a145 := Tryd.isAgg147
  z145 := Tryd.sizeOf147
  v145 := Tryd.zeroValue147
  t167 := Tryd.underlying109
  a167 := Tryd.isAgg109
  z167 := Tryd.sizeOf109
  v167 := Tryd.zeroValue109
  t168 := Tryd.underlying112
  a168 := Tryd.isAgg112
  z168 := Tryd.sizeOf112
  v168 := Tryd.zeroValue112
  t171 := Tryd.underlying117
  a171 := Tryd.isAgg117
  z171 := Tryd.sizeOf117
  v171 := Tryd.zeroValue117
  t173 := Tryd.underlying120
  a173 := Tryd.isAgg120
  z173 := Tryd.sizeOf120
  v173 := Tryd.zeroValue120
  t175 := Tryd.underlying132
  a175 := Tryd.isAgg132
  z175 := Tryd.sizeOf132
  v175 := Tryd.zeroValue132
  t210 := Tryd.underlying136
  a210 := Tryd.isAgg136
  z210 := Tryd.sizeOf136
  v210 := Tryd.zeroValue136
  t212 := Tryd.underlying139
  a212 := Tryd.isAgg139
  z212 := Tryd.sizeOf139
  v212 := Tryd.zeroValue139
  t213 := Tryd.underlying140
  a213 := Tryd.isAgg140
  z213 := Tryd.sizeOf140
  t232 := Tryd.underlying149
  a232 := Tryd.isAgg149
  z232 := Tryd.sizeOf149
  v232 := Tryd.zeroValue149
  t233 := Tryd.underlying150
  a233 := Tryd.isAgg150
  z233 := Tryd.sizeOf150
  v233 := Tryd.zeroValue150
  g15 := by kernel_rfl
  g16 := by kernel_rfl
  g17 := by kernel_rfl
  g18 := by kernel_rfl
  g19 := by kernel_rfl
  t80 := Tryd.underlying62
  a80 := Tryd.isAgg62
  z80 := Tryd.sizeOf62
  v80 := Tryd.zeroValue62
  i0 := by kernel_rfl
  i2 := by kernel_rfl
  i3 := by kernel_rfl
  i4 := by kernel_rfl
  i5 := by kernel_rfl
  i9 := by kernel_rfl
  i20 := by kernel_rfl
  i21 := by kernel_rfl
  i37 := by kernel_rfl
  i46 := by kernel_rfl
  i51 := by kernel_rfl
  i53 := by kernel_rfl
  i75 := by kernel_rfl
  i76 := by kernel_rfl
  i80 := by kernel_rfl
  i85 := by kernel_rfl
  i127 := by kernel_rfl
  i143 := by kernel_rfl
  i145 := by kernel_rfl
  i167 := by kernel_rfl
  i168 := by kernel_rfl
  i171 := by kernel_rfl
  i173 := by kernel_rfl
  i175 := by kernel_rfl
  i210 := by kernel_rfl
  i212 := by kernel_rfl
  i232 := by kernel_rfl
  i233 := by kernel_rfl
  m15 := by kernel_rfl
  m16 := by kernel_rfl
  m17 := by kernel_rfl
  m18 := by kernel_rfl
  m19 := by kernel_rfl
  c0 := by kernel_rfl
  c2 := by kernel_rfl
  c3 := by kernel_rfl
  c4 := by kernel_rfl
  c5 := by kernel_rfl
  c9 := by kernel_rfl
  c20 := by kernel_rfl
  c21 := by kernel_rfl
  c37 := by kernel_rfl
  c46 := by kernel_rfl
  c51 := by kernel_rfl
  c53 := by kernel_rfl
  c75 := by kernel_rfl
  c76 := by kernel_rfl
  c80 := by kernel_rfl
  c85 := by kernel_rfl
  c127 := by kernel_rfl
  c143 := by kernel_rfl
  c145 := by kernel_rfl
  c167 := by kernel_rfl
  c168 := by kernel_rfl
  c171 := by kernel_rfl
  c173 := by kernel_rfl
  c175 := by kernel_rfl
  c210 := by kernel_rfl
  c212 := by kernel_rfl
  c213 := by kernel_rfl
  c232 := by kernel_rfl
  c233 := by kernel_rfl }
end Go.Proofs
namespace Go.Proofs.YtdeodhahkjgfiaaDoor
set_option maxRecDepth 100000
open Go.Sx Go.RowKit
theorem one_sz (c : UInt8) : 1 ≤ (⟨#[c]⟩ : ByteArray).size := Nat.le_refl 1
theorem alloc_at (w : World) (o : Obj) : (w.alloc o).heap[w.heap.size]? = some o := by show (w.heap.push o)[w.heap.size]? = some o; simp
theorem index_byte (c : UInt8) : ∀ l : List UInt8, Lib.index l [c] = Lib.indexByte l c
  | [] => rfl
  | x :: r => by
    rw [Lib.index, Lib.indexByte, index_byte c r]
    by_cases hx : x = c
    · subst hx; simp [List.isPrefixOf]
    · have hx' : ¬ c = x := fun e => hx e.symm
      simp [List.isPrefixOf, hx, hx']
theorem indexB_one (s : ByteArray) (c : UInt8) : Lib.indexB s ⟨#[c]⟩ = Lib.indexByte s.data.toList c := index_byte c _
theorem countB_one (s : ByteArray) (c : UInt8) : Lib.countB s ⟨#[c]⟩ = s.data.toList.count c := Lib.count_one c _
theorem split_cut (s : List UInt8) (c : UInt8) : Lib.splitB ⟨#[c]⟩ 0 (Lib.countB (bs s) ⟨#[c]⟩) (bs s) = (cutAt c s).map bs := by
  have h := Lib.splitB_data ⟨#[c]⟩ 0 (Lib.countB (bs s) ⟨#[c]⟩) (bs s)
  have e : Lib.splitK [c] 0 (Lib.countB (bs s) ⟨#[c]⟩) s = cutAt c s := splitK_cut c _ s (countB_one (bs s) c).symm
  have h' : (Lib.splitB ⟨#[c]⟩ 0 (Lib.countB (bs s) ⟨#[c]⟩) (bs s)).map (·.data.toList) = cutAt c s := h.trans e
  rw [← h', List.map_map]
  conv => lhs; rw [← List.map_id (Lib.splitB ⟨#[c]⟩ 0 (Lib.countB (bs s) ⟨#[c]⟩) (bs s))]
  exact List.map_congr_left fun x _ => (bs_data x).symm
theorem cut_count (s : List UInt8) (c : UInt8) : Lib.countB (bs s) ⟨#[c]⟩ + 1 = (cutAt c s).length := by
  have h := Lib.splitB_all ⟨#[c]⟩ (one_sz c) 0 _ (bs s) rfl
  rw [split_cut, List.length_map] at h
  exact h.symm
theorem str_info : (Tryd.prog.info? 9).map (fun i => (i.zero, i.size, i.bytes)) = some (some (.string ByteArray.empty), 1, 16) := by kernel_rfl
set_option maxHeartbeats 1000000 in
theorem split_calls (s : List UInt8) (c : UInt8) (w : World) (hs : s.length < 4294967281) :
    Calls Tryd.prog 19 #[strV s, strV [c]] w fun e w' => e = .returned (.slice (some ⟨w.heap.size, 0, none⟩) (cutAt c s).length (cutAt c s).length) ∧ w' = w.alloc (.cells ((cutAt c s).map strV).toArray 9) := by
  have k := Any.strings_genSplit_core { Tryd.split with } str_info (bs s) ⟨#[c]⟩ 0 (-1) ((cutAt c s).length) w (by rw [bs_size]; exact hs) (one_sz c) (Nat.zero_le _)
    (fun x cc hx => (Any.strings_Index_one { Tryd.split with } x c _).mono fun e w' ⟨he, hw⟩ => ⟨by rw [he, indexB_one], hw⟩)
    ((Any.strings_Count_one { Tryd.split with } (bs s) c w).mono fun e w' ⟨he, hw⟩ => ⟨by rw [he, countB_one]; rfl, hw⟩) (by decide) (by decide)
    (by
      have h1 := cut_count s c
      have h2 := Lib.countB_le ⟨#[c]⟩ (one_sz c) _ (bs s) (Nat.le_refl _)
      rw [if_pos (by decide)]; omega)
  have h1 := cut_count s c
  rw [show (cutAt c s).length - 1 = Lib.countB (bs s) ⟨#[c]⟩ by omega, split_cut, List.length_map] at k
  have e2 : Lib.cellsOf ((cutAt c s).map bs) (cutAt c s).length = ((cutAt c s).map strV).toArray := by
    have := Lib.cellsOf_full ((cutAt c s).map bs)
    rw [List.length_map, List.map_map] at this
    exact this
  rw [e2] at k
  have e29 : ∀ args w, (callFunc 29 args).run Tryd.prog w = .ok (.enter 29 args) w := enters_of Tryd.func29 (by kernel_rfl) rfl
  have k' : Calls Tryd.prog 29 #[.string (bs s), .string ⟨#[c]⟩, .int .i64 0, .int .i64 (-1)] w fun e w' => e = .returned (.slice (some ⟨w.heap.size, 0, none⟩) (cutAt c s).length (cutAt c s).length) ∧ w' = w.alloc (.cells ((cutAt c s).map strV).toArray 9) := k
  clear k e2 h1
  generalize cutAt c s = p at k' ⊢
  show Calls _ _ #[.string (bs s), .string ⟨#[c]⟩] _ _
  generalize bs s = q at k' ⊢
  go_enter Tryd.func19, Tryd.ntmps19
  go_wp2_with (go_at_fn 29; refine k'.mono ?_; rintro e w' ⟨rfl, hw⟩; rw [hw])
  go_ret
  exact ⟨rfl, rfl⟩
theorem flat_strs (p : List (List UInt8)) : FlatAs 1 p.length (strsF p) (p.map strV) := by
  intro i hi
  refine ⟨rfl, fun j v hv => ?_⟩
  cases j with
  | succ j => simp [strsF] at hv
  | zero =>
    simp only [strsF, List.getElem?_cons_zero, Option.some.injEq] at hv
    subst hv
    rw [Nat.mul_one, Nat.add_zero, List.getElem?_map, List.getElem?_eq_getElem hi, List.getD_eq_getElem?_getD, List.getElem?_eq_getElem hi]
    rfl
theorem split_can (s : List UInt8) (c : UInt8) (hs : s.length < 4294967281) : Makes Tryd.prog 19 (rawsD [strV s, strV [c]]) [] (XV.sv (.slc 0 1 0 (cutAt c s).length)) (.vec 9 1 (cutAt c s).length (strsF (cutAt c s))) := by
  refine Makes.raws _ _ _ _ _ _ fun w _ => (split_calls s c w hs).mono ?_
  rintro e w' ⟨rfl, rfl⟩
  have hlen : (cutAt c s).length ≤ maxLen := by
    have h1 := cut_count s c
    have h2 := Lib.countB_le ⟨#[c]⟩ (one_sz c) _ (bs s) (Nat.le_refl _)
    rw [bs_size] at h2
    unfold maxLen; omega
  generalize cutAt c s = p at hlen ⊢
  refine ⟨_, p.map strV, rfl, ⟨by simp, .inr ⟨w.heap.size, p.length, (p.map strV).toArray, rfl, Nat.le_refl _, alloc_at w _, Nat.le_refl _, hlen, by simp, ?_⟩⟩, flat_strs _, ⟨rfl, rfl, rfl, by rw [World.size_alloc]; omega, fun k hk => Below.heap_alloc w _ k hk⟩⟩
  rw [List.take_of_length_le (by simp)]
theorem tab_stays' {w w' : World} {g : Nat} {n : String} {k : IntKind} {zs : List Int} (hg : Tryd.prog.globalNamed n = some g) (h : Lib.TabIs Tryd.prog w n k zs) (hb : Below w.heap.size w w') : Lib.TabIs Tryd.prog w' n k zs := by
  have hlt : g < w.heap.size := by
    by_cases hl : g < w.heap.size
    · exact hl
    · simp [Lib.TabIs, World.var?, hg, Array.getElem?_eq_none (by omega : w.heap.size ≤ g)] at h
  simpa [Lib.TabIs, World.var?, hg, hb.block g hlt] using h
def powV : Array Value := (Lib.pow10Tab.map fun z => Value.int .u64 z).toArray
def powP : ExtP := VarP 6 powV
theorem pow_named : Tryd.prog.globalNamed "internal/strconv.uint64pow10" = some 6 := by kernel_rfl
theorem itoa_calls (n : Int) (h0 : -9223372036854775808 ≤ n) (h1 : n ≤ 9223372036854775807) (w : World) (ht : Lib.TabIs Tryd.prog w "internal/strconv.uint64pow10" .u64 Lib.pow10Tab) :
    Calls Tryd.prog 44 #[.int .i64 n] w fun e w' => e = .returned (strV (Lib.itoa n)) ∧ Below w.heap.size w w' :=
  (Any.strconv_Itoa Tryd.itoa n h0 h1 w ht).mono fun e w' ⟨he, k, os, hw⟩ => ⟨he, by rw [hw]; exact below_grown_drewN w k os⟩
set_option maxRecDepth 100000
open Go.Sx
set_option maxRecDepth 100000
open Go.Sx
def u8 (x : UInt8) : Value := .int .u8 (x.toNat : Int)
def i64 (x : Int64) : Value := .int .i64 x.toInt
structure H8 where
  (b0 b1 b2 b3 b4 b5 b6 b7 : UInt8)
  deriving DecidableEq, Inhabited
def H8.cells (h : H8) : List Value := [u8 h.b0, u8 h.b1, u8 h.b2, u8 h.b3, u8 h.b4, u8 h.b5, u8 h.b6, u8 h.b7]
abbrev H8.x (h : H8) : CV := .agg (h.cells.map .raw)
def H8.l (h : H8) : List UInt8 := [h.b0, h.b1, h.b2, h.b3, h.b4, h.b5, h.b6, h.b7]
def bytesF (b : Nat → UInt8) : Nat → List Value := fun i => [u8 (b i)]
theorem updB (w : Nat → UInt8) (i k : Nat) (x : UInt8) : updF (bytesF w) i 0 [u8 x] k = bytesF (fun k => if k = i then x else w k) k := by
  by_cases h : k = i
  · subst h; rw [updF_whole (by rfl)]; simp [bytesF]
  · rw [updF_ne h]; simp [bytesF, h]
def rowB (l : List UInt8) : Nat → List Value := bytesF fun i => l.getD i 0
set_option maxRecDepth 100000
open Go.Sx Go.RowKit
def errV (t : TypeId) (p : Value) : Array Value := #[.iface t p]
def lawsP (t1 : TypeId) (p1 : Value) (t2 : TypeId) (p2 : Value) : List ExtP := [powP, VarP 4 (errV t1 p1), VarP 5 (errV t2 p2)]
theorem syn_named : Tryd.prog.globalNamed "strconv.ErrSyntax" = some 4 := by kernel_rfl
theorem rng_named : Tryd.prog.globalNamed "strconv.ErrRange" = some 5 := by kernel_rfl
theorem atoi_calls (s : List UInt8) (hs : s.length ≤ 281474976710656) (w : World) {t1 t2 : TypeId} {p1 p2 : Value} (h1 : w.var? Tryd.prog "strconv.ErrSyntax" = some #[.iface t1 p1]) (h2 : w.var? Tryd.prog "strconv.ErrRange" = some #[.iface t2 p2]) :
    Calls Tryd.prog 43 #[strV s] w fun e w' => ∃ ev, e = .returned (.tuple #[.int .i64 (numN s), ev]) ∧ ((∃ v, Lib.atoiAll s = .ok v ∧ ev = .nilIface) ∨ (∀ v, Lib.atoiAll s ≠ .ok v) ∧ ∃ t p, ev = .iface t p) ∧ Below w.heap.size w w' := by
  have hsz : (bs s).size ≤ 281474976710656 := by rw [bs_size]; exact hs
  rcases h : Lib.atoiAll s with v | _ | _
  · have e : numN s = v := by simp [numN, h]
    refine (Any.strconv_Atoi_ok Tryd.atoi (bs s) (by omega) v h w).mono ?_
    rintro e' w' ⟨rfl, hw⟩
    refine ⟨.nilIface, by rw [e], .inl ⟨v, rfl, rfl⟩, ?_⟩
    rcases hw with rfl | ⟨t, rfl⟩
    · exact Below.refl _ _
    · exact Lib.bytesWorld_below w _ t
  · have e : numN s = 0 := by simp [numN, h]
    refine (Any.strconv_Atoi_syntax_var Tryd.atoi (bs s) hsz h t1 p1 w h1).mono ?_
    rintro e' w' ⟨N, rfl, _, _, hb⟩
    exact ⟨_, by rw [e], .inr ⟨fun v hv => (by cases hv), _, _, rfl⟩, hb⟩
  · have e : numN s = Lib.atoiSat s := by simp [numN, h]
    refine (Any.strconv_Atoi_range_var Tryd.atoi (bs s) hsz h t2 p2 w h2).mono ?_
    rintro e' w' ⟨N, rfl, _, _, hb⟩
    exact ⟨_, by rw [e], .inr ⟨fun v hv => (by cases hv), _, _, rfl⟩, hb⟩
theorem str_eq (a b : List UInt8) : ((bs a).toList == (bs b).toList) = decide (a = b) := by
  rw [bytes_eq]
  by_cases h : a = b
  · simp [h]
  · rw [decide_eq_false h, decide_eq_false (fun e => h (bs_inj.1 e))]
set_option maxHeartbeats 1000000 in
theorem number_calls (s : List UInt8) (hs : s.length ≤ 281474976710656) (w : World) {t1 t2 : TypeId} {p1 p2 : Value} (ht : Lib.TabIs Tryd.prog w "internal/strconv.uint64pow10" .u64 Lib.pow10Tab) (h1 : w.var? Tryd.prog "strconv.ErrSyntax" = some #[.iface t1 p1]) (h2 : w.var? Tryd.prog "strconv.ErrRange" = some #[.iface t2 p2]) :
    Calls Tryd.prog 32 #[strV s] w fun e w' => e = .returned (.tuple #[.int .i64 (numN s), .bool (numB s)]) ∧ Below w.heap.size w w' := by
  have ha := atoi_calls s hs w h1 h2
  have hi : ∀ w', Below w.heap.size w w' → Calls Tryd.prog 44 #[.int .i64 (numN s)] w' fun e w'' => e = .returned (strV (Lib.itoa (numN s))) ∧ Below w.heap.size w w'' := fun w' hb =>
    (itoa_calls (numN s) (numN_bounds s).1 (numN_bounds s).2 w' (tab_stays' pow_named ht hb)).mono fun e w'' ⟨he, hb'⟩ => ⟨he, hb.trans (hb'.mono hb.size)⟩
  have hbad : (∀ v, Lib.atoiAll s ≠ .ok v) → numB s = false := fun h => by
    unfold numB
    split
    · rename_i v hv; exact absurd hv (h v)
    · rfl
  have hgood : ∀ v, Lib.atoiAll s = .ok v → ((bs (Lib.itoa (numN s))).toList == (bs s).toList) = numB s := fun v hv => by
    rw [str_eq]; simp [numB, numN, hv]
  clear h1 h2 ht
  have e43 : ∀ args w, (callFunc 43 args).run Tryd.prog w = .ok (.enter 43 args) w := enters_of Tryd.func43 (by kernel_rfl) rfl
  have e44 : ∀ args w, (callFunc 44 args).run Tryd.prog w = .ok (.enter 44 args) w := enters_of Tryd.func44 (by kernel_rfl) rfl
  have hstr : strV s = .string (bs s) := rfl
  have hstr2 : strV (Lib.itoa (numN s)) = .string (bs (Lib.itoa (numN s))) := rfl
  rw [hstr] at ha ⊢
  rw [hstr2] at hi
  clear hstr hstr2
  generalize bs (Lib.itoa (numN s)) = si at hi hgood
  generalize bs s = sb at ha hgood ⊢
  generalize numN s = n at ha hi ⊢
  generalize numB s = b at hbad hgood ⊢
  by_cases hok : ∃ v, Lib.atoiAll s = .ok v
  · have ha' : Calls Tryd.prog 43 #[.string sb] w fun e w' => e = .returned (.tuple #[.int .i64 n, .nilIface]) ∧ Below w.heap.size w w' := ha.mono fun e w' ⟨ev, he, hev, hb⟩ => by
      rcases hev with ⟨v, _, rfl⟩ | ⟨hno, _⟩
      · exact ⟨he, hb⟩
      · exact absurd hok.choose_spec (hno _)
    obtain ⟨v, hv⟩ := hok
    have hg := hgood v hv
    clear ha hgood hbad
    go_enter Tryd.func32, Tryd.ntmps32
    go_wp2_with (first | (go_at_fn 43; refine ha'.mono ?_; rintro e w1 ⟨rfl, hb1⟩) | (go_at_fn 44; refine (hi _ (by assumption)).mono ?_; rintro e w2 ⟨rfl, hb2⟩))
    go_ret2
    exact ⟨rfl, hb2⟩
  · have ha' : Calls Tryd.prog 43 #[.string sb] w fun e w' => ∃ t p, e = .returned (.tuple #[.int .i64 n, .iface t p]) ∧ Below w.heap.size w w' := ha.mono fun e w' ⟨ev, he, hev, hb⟩ => by
      rcases hev with ⟨v, hv, _⟩ | ⟨_, t, p, rfl⟩
      · exact absurd ⟨v, hv⟩ hok
      · exact ⟨t, p, he, hb⟩
    have hb := hbad (fun v hv => hok ⟨v, hv⟩)
    subst hb
    clear ha hgood hbad hok
    go_enter Tryd.func32, Tryd.ntmps32
    go_wp2_with (first | (go_at_fn 43; refine ha'.mono ?_; rintro e w1 ⟨t, p, rfl, hb1⟩))
    go_ret2
    exact ⟨rfl, hb1⟩
theorem number_can (s : List UInt8) (hs : s.length ≤ 281474976710656) {t1 t2 : TypeId} {p1 p2 : Value} : Reads Tryd.prog 32 (rawsD [strV s]) (lawsP t1 p1 t2 p2) (.tup [.one (.raw (.int .i64 (numN s))), .one (.raw (.bool (numB s)))]) := by
  refine Reads.raws _ _ _ rfl fun w hw => ?_
  obtain ⟨L1, O1, v1⟩ := hw powP (by simp [lawsP])
  obtain ⟨L2, O2, v2⟩ := hw (VarP 4 (errV t1 p1)) (by simp [lawsP])
  obtain ⟨L3, O3, v3⟩ := hw (VarP 5 (errV t2 p2)) (by simp [lawsP])
  exact (number_calls s hs w (VarP.var pow_named v1) (VarP.var syn_named v2) (VarP.var rng_named v3)).mono fun e w' ⟨he, hb⟩ => ⟨_, he, ⟨_, rfl, _, _, rfl, rfl, _, _, rfl, rfl, rfl⟩, hb⟩
theorem indexByte_can (l : List UInt8) (c : Int) : Reads Tryd.prog 49 (rawsD [strV l, .int .u8 c]) [] (XV.int .i64 (Lib.indexByte l c.toNat.toUInt8)) := by
  refine Reads.raws _ _ _ rfl fun w _ => ?_
  exact (Any.strings_IndexByte Tryd.idxb (bs l) c w).mono fun e w' ⟨he, hw⟩ => ⟨_, he, rfl, hw ▸ Below.refl _ _⟩
theorem byteIndex_can (l : List UInt8) (c : Int) (h0 : 0 < l.length) : Reads Tryd.prog 62 (.row 1 l.length (fun i => [u8 (l.getD i 0)]) :: rawsD [.int .u8 c]) [] (XV.int .i64 (Lib.indexByte l c.toNat.toUInt8)) := by
  refine Reads.rowRaw _ _ rfl h0 fun w b o cap hb hc hcell => ?_
  have k := Any.bytes_IndexByte Tryd.bidx b o l.length cap (l.map fun x : UInt8 => (x.toNat : Int)) c w (by rw [List.length_map]) (fun i hi => ?_)
  · have e : Lib.bytesOf (l.map fun x : UInt8 => (x.toNat : Int)) = l := by
      simp only [Lib.bytesOf, List.map_map]
      exact (List.map_congr_left fun x _ => by simp).trans (List.map_id l)
    rw [e] at k
    exact k.mono fun e' w' ⟨he, hw⟩ => ⟨_, he, rfl, hw ▸ Below.refl _ _⟩
  · have := (hcell i hi).2 0 _ rfl
    rw [Nat.mul_one, Nat.add_zero] at this
    rw [this, List.getD_eq_getElem?_getD, List.getD_eq_getElem?_getD, List.getElem?_map, List.getElem?_eq_getElem hi]
    rfl
set_option maxRecDepth 100000
open Go.Sx
theorem ofInt_natN (n x : Nat) (h : x < 2 ^ n) : (BitVec.ofInt n (x : Int)).toNat = x := by
  rw [BitVec.ofInt_natCast, BitVec.toNat_ofNat]; exact Nat.mod_eq_of_lt h
theorem or64 {x y : Nat} (hx : x < 18446744073709551616) (hy : y < 18446744073709551616) : bitI .or .u64 (x : Int) (y : Int) = ((x ||| y : Nat) : Int) ∧ x ||| y < 18446744073709551616 := by
  have h := (BitVec.ofInt 64 (x : Int) ||| BitVec.ofInt 64 (y : Int)).isLt
  rw [BitVec.toNat_or, ofInt_natN 64 x hx, ofInt_natN 64 y hy] at h
  refine ⟨?_, h⟩
  show IntKind.u64.wrap ((BitVec.ofInt 64 (x : Int) ||| BitVec.ofInt 64 (y : Int)).toNat : Int) = _
  rw [BitVec.toNat_or, ofInt_natN 64 x hx, ofInt_natN 64 y hy, IntKind.wrap_u64]
  exact Int.emod_eq_of_lt (by omega) (by omega)
theorem and64 {x y : Nat} (hx : x < 18446744073709551616) (hy : y < 18446744073709551616) : bitI .and .u64 (x : Int) (y : Int) = ((x &&& y : Nat) : Int) := by
  have h := (BitVec.ofInt 64 (x : Int) &&& BitVec.ofInt 64 (y : Int)).isLt
  rw [BitVec.toNat_and, ofInt_natN 64 x hx, ofInt_natN 64 y hy] at h
  show IntKind.u64.wrap ((BitVec.ofInt 64 (x : Int) &&& BitVec.ofInt 64 (y : Int)).toNat : Int) = _
  rw [BitVec.toNat_and, ofInt_natN 64 x hx, ofInt_natN 64 y hy, IntKind.wrap_u64]
  exact Int.emod_eq_of_lt (by omega) (by omega)
theorem or8 {x y : Nat} (hx : x < 256) (hy : y < 256) : bitI .or .u8 (x : Int) (y : Int) = ((x ||| y : Nat) : Int) := by
  have h := (BitVec.ofInt 8 (x : Int) ||| BitVec.ofInt 8 (y : Int)).isLt
  rw [BitVec.toNat_or, ofInt_natN 8 x hx, ofInt_natN 8 y hy] at h
  show IntKind.u8.wrap ((BitVec.ofInt 8 (x : Int) ||| BitVec.ofInt 8 (y : Int)).toNat : Int) = _
  rw [BitVec.toNat_or, ofInt_natN 8 x hx, ofInt_natN 8 y hy, IntKind.wrap_u8]
  exact Int.emod_eq_of_lt (by omega) (by omega)
theorem and8 {x y : Nat} (hx : x < 256) (hy : y < 256) : bitI .and .u8 (x : Int) (y : Int) = ((x &&& y : Nat) : Int) := by
  have h := (BitVec.ofInt 8 (x : Int) &&& BitVec.ofInt 8 (y : Int)).isLt
  rw [BitVec.toNat_and, ofInt_natN 8 x hx, ofInt_natN 8 y hy] at h
  show IntKind.u8.wrap ((BitVec.ofInt 8 (x : Int) &&& BitVec.ofInt 8 (y : Int)).toNat : Int) = _
  rw [BitVec.toNat_and, ofInt_natN 8 x hx, ofInt_natN 8 y hy, IntKind.wrap_u8]
  exact Int.emod_eq_of_lt (by omega) (by omega)
theorem shl64 (x n : Nat) (hn : n ≤ 64) : shlI .u64 (x : Int) (n : Int) = ((x * 2 ^ n % 18446744073709551616 : Nat) : Int) := by
  have e : min ((n : Int).toNat) IntKind.u64.bits = n := by rw [show IntKind.u64.bits = 64 from rfl]; omega
  rw [shlI, e, IntKind.wrap_u64, Int.natCast_emod, Int.natCast_mul, Int.natCast_pow]
  rfl
theorem shl8 (x n : Nat) (hn : n ≤ 8) : shlI .u8 (x : Int) (n : Int) = ((x * 2 ^ n % 256 : Nat) : Int) := by
  have e : min ((n : Int).toNat) IntKind.u8.bits = n := by rw [show IntKind.u8.bits = 8 from rfl]; omega
  rw [shlI, e, IntKind.wrap_u8, Int.natCast_emod, Int.natCast_mul, Int.natCast_pow]
  rfl
theorem shrN {k : IntKind} (x n : Nat) (hn : n ≤ k.bits) : shrI k (x : Int) (n : Int) = ((x / 2 ^ n : Nat) : Int) := by
  have e : min ((n : Int).toNat) k.bits = n := by omega
  rw [shrI, e, Int.fdiv_eq_ediv_of_nonneg _ (Int.le_of_lt (Int.pow_pos (by decide))), Int.natCast_ediv, Int.natCast_pow]
  rfl
theorem or_add {a b i : Nat} (h : b < 2 ^ i) : a * 2 ^ i ||| b = a * 2 ^ i + b := by
  rw [← Nat.shiftLeft_eq, Nat.shiftLeft_add_eq_or_of_lt h]
theorem and15 (x : Nat) : x &&& 15 = x % 16 := Nat.and_two_pow_sub_one_eq_mod x 4
def nib (o d : Nat) : Nat := o * 16 % 256 + d
theorem nib_lt {o d : Nat} (h : d < 16) : nib o d < 256 := by unfold nib; omega
theorem nib_eq {o d : Nat} (ho : o < 256) (h : d < 16) : bitI .or .u8 (shlI .u8 (o : Int) 4) (IntKind.u8.wrap (d : Int)) = (nib o d : Int) := by
  have e1 : shlI .u8 (o : Int) 4 = ((o * 16 % 256 : Nat) : Int) := shl8 o 4 (by decide)
  have e2 : IntKind.u8.wrap (d : Int) = (d : Int) := by rw [IntKind.wrap_u8]; omega
  rw [e1, e2, or8 (by omega) (by omega)]
  have e3 : o * 16 % 256 = (o % 16) * 2 ^ 4 := by omega
  rw [nib, e3, or_add (by omega)]
end Go.Proofs.YtdeodhahkjgfiaaDoor
