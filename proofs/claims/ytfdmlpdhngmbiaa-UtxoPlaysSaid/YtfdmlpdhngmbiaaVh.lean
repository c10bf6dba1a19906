/- The plain law behind UtxoSums: the coins, their sum, their points in order, and all spent one by one. -/
import Derived.Test.YtfdmlpdhngmbiaaVf
import Derived.Test.YtfdmlpdhngmbiaaUl
namespace Go.Proofs.Ytfdmlpdhngmbiaa
open Go.Sx

theorem wrap_add (a b : Int) : IntKind.i64.wrap (IntKind.i64.wrap a + b) = IntKind.i64.wrap (a + b) := by
  have e1 : IntKind.i64.bits = 64 := rfl
  have e2 : IntKind.i64.signed = true := rfl
  simp only [IntKind.wrap, e1, e2, Bool.true_and]
  split <;> split <;> split <;> rename_i h h' h'' <;> simp only [ge_iff_le, decide_eq_true_eq] at h h' h'' <;> omega
theorem wrap_sub (a b : Int) : IntKind.i64.wrap (IntKind.i64.wrap a - b) = IntKind.i64.wrap (a - b) := by
  have := wrap_add a (-b)
  simpa [Int.sub_eq_add_neg] using this

def sumC : List (Pt × Coin) → Int
  | [] => 0
  | x :: r => x.2.amt.toInt + sumC r
theorem sumC_perm {l l' : List (Pt × Coin)} (h : l.Perm l') : sumC l = sumC l' := by
  induction h with
  | nil => rfl
  | cons x _ ih => simp only [sumC, ih]
  | swap x y l => simp only [sumC]; omega
  | trans _ _ h1 h2 => rw [h1, h2]

theorem mdel_perm : ∀ {l : List (Pt × Coin)} {k : Pt} {v : Coin}, mget l k = some v → ((k, v) :: mdel l k).Perm l
  | [], _, _, h => by cases h
  | x :: r, k, v, h => by
    simp only [mget] at h
    simp only [mdel]
    by_cases hk : x.1 = k
    · rw [if_pos hk] at h ⊢
      cases h
      obtain ⟨a, b⟩ := x
      subst hk
      exact List.Perm.refl _
    · rw [if_neg hk] at h ⊢
      exact (List.Perm.swap _ _ _).trans ((mdel_perm h).cons x)
theorem mget_filter : ∀ {l : List (Pt × Coin)} {k q : Pt}, mget (l.filter (fun x => x.1 ≠ k)) q = if q = k then none else mget l q
  | [], k, q => by simp [mget]
  | x :: r, k, q => by
    by_cases hx : x.1 = k
    · rw [List.filter_cons_of_neg (by simpa using hx), mget_filter]
      by_cases hq : q = k
      · simp [hq]
      · have : x.1 ≠ q := fun e => hq (e ▸ hx)
        simp [hq, mget, this]
    · rw [List.filter_cons_of_pos (by simpa using hx)]
      simp only [mget]
      rw [mget_filter]
      by_cases hq : x.1 = q
      · have : q ≠ k := fun e => hx (hq.trans e)
        simp [hq, this]
      · simp [hq]
theorem mget_of_mem : ∀ {l : List (Pt × Coin)} {k : Pt} {v : Coin}, keysND l → (k, v) ∈ l → mget l k = some v
  | x :: r, k, v, hn, h => by
    simp only [keysND, List.map_cons, List.nodup_cons] at hn
    simp only [mget]
    rcases List.mem_cons.1 h with rfl | h
    · simp
    · have : x.1 ≠ k := fun e => hn.1 (e ▸ List.mem_map.2 ⟨_, h, rfl⟩)
      rw [if_neg this]
      exact mget_of_mem hn.2 h

structure Inv (S : USet) : Prop where
  nd : keysND S.coins
  tot : S.total = IntKind.i64.wrap (sumC S.coins)
theorem Inv.empty : Inv USet.empty := ⟨List.nodup_nil, rfl⟩
theorem okB_has {S : USet} {p : Pt} {c : Coin} (h : S.okB p c = true) : S.has p = false := by
  simp only [USet.okB, Bool.and_eq_true, Bool.not_eq_true'] at h
  exact h.1.2
theorem Inv.add {S : USet} (h : Inv S) (p : Pt) (c : Coin) : Inv (S.add p c) := by
  unfold USet.add
  split
  · rename_i hok
    have hh := mget_key (okB_has hok)
    refine ⟨nd_mput h.nd, ?_⟩
    simp only [USet.add1, USet.put, h.tot, wrap_add]
    congr 1
    have hf : S.coins.filter (fun x => x.1 ≠ p) = S.coins := by
      rw [List.filter_eq_self]
      intro y hy
      simpa using hh y hy
    have := sumC_perm (mput_perm (k := p) (v := c) h.nd)
    rw [hf] at this
    rw [this]
    simp only [sumC]
    omega
  · exact h
theorem has_get {S : USet} {p : Pt} (h : S.has p = true) : mget S.coins p = some (S.get p) := by
  unfold USet.has at h
  unfold USet.get
  cases hm : mget S.coins p with
  | none => rw [hm] at h; cases h
  | some v => rfl
theorem spend_coins {S : USet} {p : Pt} (h : S.has p = true) : (S.spend p).coins = mdel S.coins p ∧ (S.spend p).total = IntKind.i64.wrap (S.total - (S.get p).amt.toInt) := by
  unfold USet.spend
  rw [if_pos h]
  exact ⟨rfl, rfl⟩
theorem sum_spend {S : USet} {p : Pt} (h : S.has p = true) : sumC (S.spend p).coins = sumC S.coins - (S.get p).amt.toInt ∧ (S.spend p).coins.length + 1 = S.coins.length := by
  have hp := mdel_perm (has_get h)
  rw [(spend_coins h).1]
  have h1 := sumC_perm hp
  have h2 := hp.length_eq
  simp only [sumC, List.length_cons] at h1 h2
  omega
theorem Inv.spend {S : USet} (h : Inv S) (p : Pt) : Inv (S.spend p) := by
  by_cases hh : S.has p = true
  · refine ⟨by rw [(spend_coins hh).1]; exact nd_mdel h.nd, ?_⟩
    rw [(spend_coins hh).2, (sum_spend hh).1, h.tot, wrap_sub]
  · unfold USet.spend
    rw [if_neg hh]
    exact h
theorem mget_spend {S : USet} (hn : keysND S.coins) {p : Pt} (h : S.has p = true) (q : Pt) : mget (S.spend p).coins q = if q = p then none else mget S.coins q := by
  rw [(spend_coins h).1, mdel_filter hn, mget_filter]

/-! ### the points -/
theorem points_nd {S : USet} (h : keysND S.coins) : S.points.Nodup := (sortPts_perm _).nodup_iff.2 h
theorem points_mem {S : USet} (p : Pt) : p ∈ S.points ↔ S.has p = true := by
  rw [USet.points, (sortPts_perm _).mem_iff]
  constructor
  · intro h
    obtain ⟨x, hx, rfl⟩ := List.mem_map.1 h
    cases hh : S.has x.1 with
    | true => rfl
    | false => exact absurd rfl (mget_key hh x hx)
  · intro h
    exact List.mem_map.2 ⟨_, mget_mem (has_get h), rfl⟩
def USet.pt (S : USet) (i : Nat) : Pt := S.points.getD i default
theorem pt_eq {S : USet} {i : Nat} (hi : i < S.coins.length) : S.points[i]? = some (S.pt i) := by
  have : i < S.points.length := by rw [S.points_len]; exact hi
  rw [USet.pt, List.getD_eq_getElem?_getD, List.getElem?_eq_getElem this]; rfl
theorem pt_has {S : USet} {i : Nat} (hi : i < S.coins.length) : S.has (S.pt i) = true := (points_mem _).1 (List.mem_of_getElem? (pt_eq hi))
theorem pt_ne {S : USet} (h : keysND S.coins) {i j : Nat} (hi : i < S.coins.length) (hj : j < S.coins.length) (hij : i ≠ j) : S.pt i ≠ S.pt j := fun e => by
  have hn := points_nd h
  have h1 := pt_eq hi
  have h2 := pt_eq hj
  rw [e] at h1
  have hil : i < S.points.length := by rw [S.points_len]; exact hi
  have hjl : j < S.points.length := by rw [S.points_len]; exact hj
  rw [List.getElem?_eq_getElem hil] at h1
  rw [List.getElem?_eq_getElem hjl] at h2
  have he := (Option.some.inj h1).trans (Option.some.inj h2).symm
  rcases Nat.lt_or_gt_of_ne hij with h3 | h3
  · exact List.pairwise_iff_getElem.1 hn i j hil hjl h3 he
  · exact List.pairwise_iff_getElem.1 hn j i hjl hil h3 he.symm
theorem pt_lt {S : USet} (h : keysND S.coins) {i : Nat} (hi : i + 1 < S.coins.length) : ltPt (S.pt i) (S.pt (i + 1)) = true := by
  have hs : S.points.Pairwise fun x y => (!ltPt y x) = true := sortPts_sorted (S.coins.map (fun x : Pt × Coin => x.1))
  have hil : i < S.points.length := by rw [S.points_len]; omega
  have hjl : i + 1 < S.points.length := by rw [S.points_len]; exact hi
  have hle := List.pairwise_iff_getElem.1 hs i (i + 1) hil hjl (by omega)
  have e1 := pt_eq (S := S) (i := i) (by omega)
  have e2 := pt_eq (S := S) (i := i + 1) hi
  rw [List.getElem?_eq_getElem hil] at e1
  rw [List.getElem?_eq_getElem hjl] at e2
  have e1 := Option.some.inj e1
  have e2 := Option.some.inj e2
  rw [e1, e2] at hle
  simp only [Bool.not_eq_true'] at hle
  cases hl : ltPt (S.pt i) (S.pt (i + 1)) with
  | true => rfl
  | false => exact absurd (ltPt_total _ _ hl hle) (pt_ne h (by omega) hi (by omega))

/-- The sum of the first i points' coins. -/
def USet.psum (S : USet) : Nat → Int
  | 0 => 0
  | i + 1 => S.psum i + (S.get (S.pt i)).amt.toInt
theorem okB_there {S : USet} {p : Pt} (c : Coin) (h : S.has p = true) : S.okB p c = false := by
  cases hk : S.okB p c with
  | false => rfl
  | true => rw [okB_has hk] at h; cases h
theorem add_there {S : USet} {p : Pt} (c : Coin) (h : S.has p = true) : S.add p c = S := by
  unfold USet.add
  rw [okB_there c h]
  rfl

/-- The first i points are spent. -/
def USet.spent (S : USet) : Nat → USet
  | 0 => S
  | i + 1 => (S.spent i).spend (S.pt i)
theorem spent_law {S : USet} (h : Inv S) : ∀ i, i ≤ S.coins.length → Inv (S.spent i) ∧ (∀ j, i ≤ j → j < S.coins.length → mget (S.spent i).coins (S.pt j) = mget S.coins (S.pt j)) ∧ sumC (S.spent i).coins = sumC S.coins - S.psum i ∧ (S.spent i).coins.length + i = S.coins.length ∧ (S.spent i).steps.length ≤ S.steps.length + i
  | 0, _ => ⟨h, fun _ _ _ => rfl, by simp [USet.spent, USet.psum], rfl, Nat.le_refl _⟩
  | i + 1, hi => by
    obtain ⟨h1, h2, h3, h4, h5⟩ := spent_law h i (by omega)
    have hm := h2 i (Nat.le_refl _) (by omega)
    have hh : (S.spent i).has (S.pt i) = true := by
      have := pt_has (S := S) (i := i) (by omega)
      unfold USet.has at this ⊢
      rw [hm]; exact this
    have hg : (S.spent i).get (S.pt i) = S.get (S.pt i) := by unfold USet.get; rw [hm]
    have hs := sum_spend hh
    refine ⟨h1.spend _, fun j hj hjl => ?_, ?_, ?_, ?_⟩
    · show mget ((S.spent i).spend (S.pt i)).coins _ = _
      rw [mget_spend h1.nd hh, if_neg (pt_ne h.nd hjl (by omega) (by omega)), h2 j (by omega) hjl]
    · show sumC ((S.spent i).spend (S.pt i)).coins = _
      rw [hs.1, h3, hg]
      simp only [USet.psum]; omega
    · show ((S.spent i).spend (S.pt i)).coins.length + (i + 1) = _
      omega
    · show ((S.spent i).spend (S.pt i)).steps.length ≤ _
      have : ((S.spent i).spend (S.pt i)).steps.length ≤ (S.spent i).steps.length + 1 := by
        unfold USet.spend
        rw [if_pos hh]
        simp [USet.spend1]
      omega
theorem spent_has {S : USet} (h : Inv S) {i : Nat} (hi : i < S.coins.length) : (S.spent i).has (S.pt i) = true ∧ (S.spent i).get (S.pt i) = S.get (S.pt i) := by
  have hm := (spent_law h i (by omega)).2.1 i (Nat.le_refl _) hi
  have := pt_has (S := S) hi
  unfold USet.has USet.get at *
  rw [hm]
  exact ⟨this, rfl⟩
theorem spent_gone {S : USet} (h : Inv S) {i : Nat} (hi : i < S.coins.length) : (S.spent (i + 1)).has (S.pt i) = false ∧ (S.spent (i + 1)).spend (S.pt i) = S.spent (i + 1) := by
  have h1 : (S.spent (i + 1)).has (S.pt i) = false := by
    show ((S.spent i).spend (S.pt i)).has (S.pt i) = false
    unfold USet.has
    rw [mget_spend (spent_law h i (by omega)).1.nd (spent_has h hi).1]
    simp
  refine ⟨h1, ?_⟩
  conv => lhs; unfold USet.spend
  rw [h1]; rfl
theorem spent_all {S : USet} (h : Inv S) : S.psum S.coins.length = sumC S.coins := by
  have hl := spent_law h S.coins.length (Nat.le_refl _)
  have h0 : (S.spent S.coins.length).coins = [] := List.eq_nil_of_length_eq_zero (by omega)
  have := hl.2.2.1
  rw [h0] at this
  simp only [sumC] at this
  omega
theorem spent_total {S : USet} (h : Inv S) {i : Nat} (hi : i ≤ S.coins.length) : (S.spent i).total = IntKind.i64.wrap (S.psum S.coins.length - S.psum i) := by
  have hl := spent_law h i hi
  rw [hl.1.tot, hl.2.2.1, spent_all h]
end Go.Proofs.Ytfdmlpdhngmbiaa
