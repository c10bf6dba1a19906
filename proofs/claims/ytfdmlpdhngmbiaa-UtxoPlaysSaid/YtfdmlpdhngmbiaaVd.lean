/- The order of points, plainly: the program's and the reference's are one, and it is total. -/
import Derived.Test.YtfdmlpdhngmbiaaVa
import Derived.Sort.Statements
import Derived.Shelf.SlSortCmp.Insertion
namespace Go.Proofs.Ytfdmlpdhngmbiaa
open Go.Lib Go.Sort

/-- Bytes as one number. -/
def numL : List UInt8 → Nat
  | [] => 0
  | x :: r => x.toNat * 256 ^ r.length + numL r
theorem numL_lt : ∀ l : List UInt8, numL l < 256 ^ l.length
  | [] => by simp [numL]
  | x :: r => by
    have := numL_lt r
    have h := x.toNat_lt
    simp only [numL, List.length_cons, Nat.pow_succ]
    have : (x.toNat + 1) * 256 ^ r.length ≤ 256 * 256 ^ r.length := Nat.mul_le_mul_right _ (by omega)
    rw [Nat.add_mul, Nat.one_mul] at this
    omega
theorem num_step (x y : UInt8) (m a b : Nat) (ha : a < m) (hb : b < m) : (x.toNat * m + a < y.toNat * m + b ↔ x.toNat < y.toNat ∨ (x = y ∧ a < b)) ∧ (x.toNat * m + a = y.toNat * m + b ↔ x = y ∧ a = b) := by
  rcases Nat.lt_trichotomy x.toNat y.toNat with h | h | h
  · have h1 : (x.toNat + 1) * m ≤ y.toNat * m := Nat.mul_le_mul_right _ h
    rw [Nat.add_mul, Nat.one_mul] at h1
    have hne : x ≠ y := fun e => by rw [e] at h; omega
    exact ⟨⟨fun _ => .inl h, fun _ => by omega⟩, ⟨fun e => by omega, fun e => absurd e.1 hne⟩⟩
  · have e : x = y := UInt8.toNat_inj.1 h
    subst e
    exact ⟨⟨fun h => .inr ⟨rfl, by omega⟩, fun h => by rcases h with h | h <;> omega⟩, ⟨fun h => ⟨rfl, by omega⟩, fun h => by omega⟩⟩
  · have h1 : (y.toNat + 1) * m ≤ x.toNat * m := Nat.mul_le_mul_right _ h
    rw [Nat.add_mul, Nat.one_mul] at h1
    have hne : x ≠ y := fun e => by rw [e] at h; omega
    exact ⟨⟨fun _ => by omega, fun e => by rcases e with e | e; omega; exact absurd e.1 hne⟩, ⟨fun e => by omega, fun e => absurd e.1 hne⟩⟩
theorem numL_inj : ∀ {a b : List UInt8}, a.length = b.length → numL a = numL b → a = b
  | [], [], _, _ => rfl
  | x :: a, y :: b, hl, h => by
    have hl' : a.length = b.length := by simpa using hl
    simp only [numL, hl'] at h
    obtain ⟨rfl, h2⟩ := (num_step x y _ _ _ (hl' ▸ numL_lt a) (numL_lt b)).2.1 h
    rw [numL_inj hl' h2]
theorem ltL_num : ∀ {a b : List UInt8}, a.length = b.length → (ltL a b = true ↔ numL a < numL b)
  | [], [], _ => by simp [ltL, numL]
  | x :: a, y :: b, hl => by
    have hl' : a.length = b.length := by simpa using hl
    have h := (num_step x y _ _ _ (hl' ▸ numL_lt a) (numL_lt b)).1
    simp only [ltL, numL, hl', h]
    by_cases e : x = y
    · subst e; simp [ltL_num hl']
    · simp [e, UInt8.lt_iff_toNat_lt]
theorem cmpB_num : ∀ {a b : List UInt8}, a.length = b.length → (compareBytes a b < 0 ↔ numL a < numL b)
  | [], [], _ => by simp [compareBytes, numL]
  | x :: a, y :: b, hl => by
    have hl' : a.length = b.length := by simpa using hl
    have h := (num_step x y _ _ _ (hl' ▸ numL_lt a) (numL_lt b)).1
    simp only [compareBytes, numL, hl', h, UInt8.lt_iff_toNat_lt]
    by_cases e : x = y
    · subst e; simp [cmpB_num hl']
    · have hne : x.toNat ≠ y.toNat := fun h => e (UInt8.toNat_inj.1 h)
      rcases Nat.lt_or_gt_of_ne hne with h1 | h1
      · simp [h1]
      · have h2 : ¬ x.toNat < y.toNat := by omega
        simp [h1, h2, e]

def Pt.num (p : Pt) : Nat := numL p.tx.l
theorem Pt.num_tx {p q : Pt} : p.num = q.num ↔ p.tx = q.tx := by
  constructor
  · intro h
    have h := numL_inj (a := p.tx.l) (b := q.tx.l) rfl h
    obtain ⟨⟨_, _, _, _, _, _, _, _⟩, _⟩ := p
    obtain ⟨⟨_, _, _, _, _, _, _, _⟩, _⟩ := q
    simp only [H8.l, List.cons.injEq, and_true] at h
    obtain ⟨rfl, rfl, rfl, rfl, rfl, rfl, rfl, rfl⟩ := h
    rfl
  · intro h; simp only [Pt.num, h]
theorem ltPt_num (p q : Pt) : ltPt p q = true ↔ p.num < q.num ∨ (p.num = q.num ∧ p.no.toInt < q.no.toInt) := by
  unfold ltPt
  simp only [Bool.or_eq_true, Bool.and_eq_true, decide_eq_true_eq, ltL_num (a := p.tx.l) (b := q.tx.l) rfl, Pt.num_tx]
  rfl
theorem compareInt_neg (x y : Int) : compareInt x y < 0 ↔ x < y := by
  unfold compareInt
  by_cases h1 : x < y
  · simp [h1]
  · by_cases h2 : y < x <;> simp [h1, h2]
theorem ordI_neg (p q : Pt) : ordI p q < 0 ↔ ltPt p q = true := by
  rw [ltPt_num]
  unfold ordI
  simp only [cmpB_num (a := p.tx.l) (b := q.tx.l) rfl, cmpB_num (a := q.tx.l) (b := p.tx.l) rfl]
  show (if p.num < q.num then (-1 : Int) else if q.num < p.num then 1 else compareInt p.no.toInt q.no.toInt) < 0 ↔ _
  by_cases h1 : p.num < q.num
  · simp [h1]
  · by_cases h2 : q.num < p.num
    · simp [h1, h2]; omega
    · have h3 : p.num = q.num := by omega
      simp [h3, compareInt_neg]
theorem ltOf_ord : ltOf ordI = ltPt := by
  funext p q
  unfold ltOf
  cases h : ltPt p q
  · simp only [decide_eq_false_iff_not, ordI_neg, h]; simp
  · simp only [decide_eq_true_eq, ordI_neg, h]

theorem ltPt_false (p q : Pt) : ltPt p q = false ↔ ¬ (p.num < q.num ∨ (p.num = q.num ∧ p.no.toInt < q.no.toInt)) := by
  rw [← ltPt_num]; simp
theorem ltPt_swo : SWO ltPt where
  irrefl x := by rw [ltPt_false]; omega
  trans x y z h1 h2 := by rw [ltPt_num] at *; omega
  ntrans x y z h1 h2 := by rw [ltPt_false] at *; omega
theorem Pt.eq_of {p q : Pt} (h1 : p.num = q.num) (h2 : p.no.toInt = q.no.toInt) : p = q := by
  have h1 := Pt.num_tx.1 h1
  have h2 := Int64.toInt_inj.1 h2
  obtain ⟨_, _⟩ := p
  obtain ⟨_, _⟩ := q
  subst h1 h2
  rfl
theorem ltPt_total (x y : Pt) (h1 : ltPt x y = false) (h2 : ltPt y x = false) : x = y := by
  rw [ltPt_false] at *
  exact Pt.eq_of (by omega) (by omega)

/-- Points in order. -/
def sortPts (l : List Pt) : List Pt := l.mergeSort fun x y => !ltPt y x
theorem lePt_trans (a b c : Pt) (h1 : (!ltPt b a) = true) (h2 : (!ltPt c b) = true) : (!ltPt c a) = true := by
  simp only [Bool.not_eq_true', ltPt_false] at *; omega
theorem lePt_total (a b : Pt) : ((!ltPt b a) || (!ltPt a b)) = true := by
  simp only [Bool.or_eq_true, Bool.not_eq_true', ltPt_false]; omega
theorem sortPts_sorted (l : List Pt) : (sortPts l).Pairwise fun x y => (!ltPt y x) = true := List.pairwise_mergeSort lePt_trans lePt_total l
theorem sortPts_perm (l : List Pt) : (sortPts l).Perm l := List.mergeSort_perm l _
theorem sorted_one {l l' : List Pt} (h : l.Perm l') (h1 : l.Pairwise fun x y => (!ltPt y x) = true) (h2 : l'.Pairwise fun x y => (!ltPt y x) = true) : l = l' := by
  refine List.Perm.eq_of_pairwise (le := fun x y => (!ltPt y x) = true) (fun a b _ _ h1 h2 => ?_) h1 h2 h
  simp only [Bool.not_eq_true'] at h1 h2
  exact ltPt_total a b h2 h1
theorem sortPts_of_perm {l l' : List Pt} (h : l.Perm l') : sortPts l = sortPts l' :=
  sorted_one (((sortPts_perm l).trans h).trans (sortPts_perm l').symm) (sortPts_sorted l) (sortPts_sorted l')
end Go.Proofs.Ytfdmlpdhngmbiaa
