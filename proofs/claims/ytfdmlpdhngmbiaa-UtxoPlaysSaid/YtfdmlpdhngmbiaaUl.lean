/- The plain law behind UtxoNests: all undone, nothing is left. -/
import Derived.Test.YtfdmlpdhngmbiaaUc
namespace Go.Proofs.Ytfdmlpdhngmbiaa
open Go.Sx

theorem USet.backN_len : ∀ (k : Nat) (S : USet), (USet.backN k S).steps.length = S.steps.length - k
  | 0, S => rfl
  | k + 1, S => by
    rw [USet.backN, USet.backN_len k, USet.pop_steps, List.length_dropLast]
    omega
theorem USet.back_len (S : USet) {n : Nat} (h : n ≤ S.steps.length) : (S.back n).steps.length = n := by
  rw [USet.back, if_pos h, USet.backN_len]
  omega

def keysND (l : List (Pt × Coin)) : Prop := (l.map (·.1)).Nodup

theorem mdel_filter : ∀ {l : List (Pt × Coin)} {k : Pt}, keysND l → mdel l k = l.filter (fun x => x.1 ≠ k)
  | [], k, _ => rfl
  | x :: r, k, h => by
    simp only [keysND, List.map_cons, List.nodup_cons] at h
    simp only [mdel]
    by_cases hk : x.1 = k
    · have hr : r.filter (fun x => x.1 ≠ k) = r := by
        rw [List.filter_eq_self]
        intro y hy
        have : y.1 ≠ k := fun e => h.1 (by rw [hk, ← e]; exact List.mem_map.2 ⟨y, hy, rfl⟩)
        simpa using this
      rw [if_pos hk, List.filter_cons_of_neg (by simpa using hk), hr]
    · rw [if_neg hk, List.filter_cons_of_pos (by simpa using hk), mdel_filter h.2]
theorem mput_perm : ∀ {l : List (Pt × Coin)} {k : Pt} {v : Coin}, keysND l → (mput l k v).Perm ((k, v) :: l.filter (fun x => x.1 ≠ k))
  | [], k, v, _ => List.Perm.refl _
  | x :: r, k, v, h => by
    simp only [keysND, List.map_cons, List.nodup_cons] at h
    simp only [mput]
    by_cases hk : x.1 = k
    · have hr : r.filter (fun x => x.1 ≠ k) = r := by
        rw [List.filter_eq_self]
        intro y hy
        have : y.1 ≠ k := fun e => h.1 (by rw [hk, ← e]; exact List.mem_map.2 ⟨y, hy, rfl⟩)
        simpa using this
      rw [if_pos hk, List.filter_cons_of_neg (by simpa using hk), hr]
    · rw [if_neg hk, List.filter_cons_of_pos (by simpa using hk)]
      exact ((mput_perm h.2).cons x).trans (List.Perm.swap _ _ _)

theorem nd_filter {l : List (Pt × Coin)} {k : Pt} (h : keysND l) : keysND (l.filter (fun x => x.1 ≠ k)) := by
  have := (List.filter_sublist (p := fun x : Pt × Coin => decide (x.1 ≠ k)) (l := l)).map (·.1)
  exact h.sublist this
theorem nd_mdel {l : List (Pt × Coin)} {k : Pt} (h : keysND l) : keysND (mdel l k) := by
  rw [mdel_filter h]; exact nd_filter h
theorem nd_mput {l : List (Pt × Coin)} {k : Pt} {v : Coin} (h : keysND l) : keysND (mput l k v) := by
  have hp := (mput_perm (k := k) (v := v) h).map (·.1)
  unfold keysND
  rw [hp.nodup_iff, List.map_cons, List.nodup_cons]
  refine ⟨fun hm => ?_, nd_filter h⟩
  obtain ⟨y, hy, he⟩ := List.mem_map.1 hm
  have := (List.mem_filter.1 hy).2
  simp [he] at this

/-- The same coins in whatever order, the same steps, the same total. -/
structure Alike (S S' : USet) : Prop where
  coins : S.coins.Perm S'.coins
  nd : keysND S.coins
  steps : S.steps = S'.steps
  total : S.total = S'.total
theorem Alike.nd' {S S' : USet} (h : Alike S S') : keysND S'.coins := by
  have hp := h.coins.map (fun x : Pt × Coin => x.1)
  exact hp.nodup_iff.1 h.nd
theorem Alike.trans {A B D : USet} (h : Alike A B) (k : Alike B D) : Alike A D := ⟨h.coins.trans k.coins, h.nd, h.steps.trans k.steps, h.total.trans k.total⟩

theorem Alike.put {S S' : USet} (h : Alike S S') (p : Pt) (c : Coin) : Alike (S.put p c) (S'.put p c) := by
  refine ⟨?_, nd_mput h.nd, h.steps, by simp only [USet.put, h.total]⟩
  exact (mput_perm h.nd).trans (((h.coins.filter _).cons _).trans (mput_perm h.nd').symm)
theorem Alike.take {S S' : USet} (h : Alike S S') (p : Pt) (c : Coin) : Alike (S.take p c) (S'.take p c) := by
  refine ⟨?_, nd_mdel h.nd, h.steps, by simp only [USet.take, h.total]⟩
  simp only [USet.take]
  rw [mdel_filter h.nd, mdel_filter h.nd']
  exact h.coins.filter _
theorem Alike.pop {S S' : USet} (h : Alike S S') : Alike S.pop S'.pop := by
  have h1 : Alike (USet.mk S.coins S.steps.dropLast S.total) (USet.mk S'.coins S'.steps.dropLast S'.total) := ⟨h.coins, h.nd, by simp only [h.steps], h.total⟩
  unfold USet.pop
  rw [h.steps] at h1 ⊢
  split
  · exact h1.take _ _
  · exact h1.put _ _
theorem Alike.backN : ∀ (k : Nat) {S S' : USet}, Alike S S' → Alike (USet.backN k S) (USet.backN k S')
  | 0, _, _, h => h
  | k + 1, _, _, h => Alike.backN k h.pop

theorem wrap_range (n : Int) : -9223372036854775808 ≤ IntKind.i64.wrap n ∧ IntKind.i64.wrap n < 9223372036854775808 := by
  have e1 : IntKind.i64.bits = 64 := rfl
  have e2 : IntKind.i64.signed = true := rfl
  simp only [IntKind.wrap, e1, e2, Bool.true_and]
  split <;> rename_i h <;> simp only [ge_iff_le, decide_eq_true_eq] at h <;> omega
theorem wrap_back {t a : Int} (h1 : -9223372036854775808 ≤ t) (h2 : t < 9223372036854775808) : IntKind.i64.wrap (IntKind.i64.wrap (t + a) - a) = t := by
  have e1 : IntKind.i64.bits = 64 := rfl
  have e2 : IntKind.i64.signed = true := rfl
  simp only [IntKind.wrap, e1, e2, Bool.true_and]
  split <;> split <;> rename_i h h' <;> simp only [ge_iff_le, decide_eq_true_eq] at h h' <;> omega
theorem wrap_forth {t a : Int} (h1 : -9223372036854775808 ≤ t) (h2 : t < 9223372036854775808) : IntKind.i64.wrap (IntKind.i64.wrap (t - a) + a) = t := by
  have := wrap_back (t := t) (a := -a) h1 h2
  simpa [Int.sub_eq_add_neg, Int.neg_neg] using this

/-- What was reached from nothing by Adds and Spends. -/
inductive Reach : USet → Prop
  | empty : Reach USet.empty
  | add {S : USet} (p : Pt) (c : Coin) : Reach S → Reach (S.add p c)
  | spend {S : USet} (p : Pt) : Reach S → Reach (S.spend p)

theorem mget_key : ∀ {l : List (Pt × Coin)} {k : Pt}, (mget l k).isSome = false → ∀ x ∈ l, x.1 ≠ k
  | [], k, _, x, hx => by cases hx
  | y :: r, k, h, x, hx => by
    simp only [mget] at h
    by_cases hk : y.1 = k
    · rw [if_pos hk] at h; cases h
    · rw [if_neg hk] at h
      rcases List.mem_cons.1 hx with rfl | hx
      · exact hk
      · exact mget_key h x hx
theorem mget_mem : ∀ {l : List (Pt × Coin)} {k : Pt} {v : Coin}, mget l k = some v → (k, v) ∈ l
  | [], k, v, h => by cases h
  | y :: r, k, v, h => by
    simp only [mget] at h
    by_cases hk : y.1 = k
    · rw [if_pos hk] at h; cases h; rw [← hk]; simp
    · rw [if_neg hk] at h; exact List.mem_cons_of_mem _ (mget_mem h)

theorem mdel_mput {l : List (Pt × Coin)} {k : Pt} {v : Coin} (h : ∀ x ∈ l, x.1 ≠ k) : mdel (mput l k v) k = l := by
  rw [mput_none h]
  induction l with
  | nil => simp [mdel]
  | cons x r ih =>
    simp only [List.cons_append, mdel]
    rw [if_neg (h x (by simp)), ih (fun y hy => h y (by simp [hy]))]
theorem mput_mdel {l : List (Pt × Coin)} {k : Pt} {v : Coin} (hn : keysND l) (h : mget l k = some v) : (mput (mdel l k) k v).Perm l := by
  refine (mput_perm (nd_mdel hn)).trans ?_
  rw [mdel_filter hn, List.filter_filter]
  simp only [Bool.and_self]
  have hm := mget_mem h
  rw [← mdel_filter hn]
  have : ∀ {l : List (Pt × Coin)}, mget l k = some v → ((k, v) :: mdel l k).Perm l := by
    intro l
    induction l with
    | nil => intro h; cases h
    | cons x r ih =>
      intro h
      simp only [mget] at h
      simp only [mdel]
      by_cases hk : x.1 = k
      · rw [if_pos hk] at h ⊢
        cases h
        rw [← hk]
      · rw [if_neg hk] at h ⊢
        exact (List.Perm.swap _ _ _).trans ((ih h).cons x)
  exact this h

theorem Reach.facts {S : USet} (h : Reach S) : keysND S.coins ∧ (-9223372036854775808 ≤ S.total ∧ S.total < 9223372036854775808) ∧ Alike (USet.backN S.steps.length S) USet.empty := by
  induction h with
  | empty => exact ⟨by simp [USet.empty, keysND], ⟨by decide, by decide⟩, ⟨List.Perm.refl _, by simp [USet.backN, USet.empty, keysND], rfl, rfl⟩⟩
  | @add S p c _ ih =>
    obtain ⟨i1, i2, i3⟩ := ih
    unfold USet.add
    by_cases hok : S.okB p c = true
    · rw [if_pos hok]
      refine ⟨nd_mput i1, wrap_range _, ?_⟩
      have hnot : ∀ x ∈ S.coins, x.1 ≠ p := by
        simp only [USet.okB, Bool.and_eq_true, Bool.not_eq_true'] at hok
        exact mget_key hok.1.2
      have hlen : (S.add1 p c).steps.length = S.steps.length + 1 := by simp [USet.add1]
      rw [hlen, USet.backN]
      have hpop : (S.add1 p c).pop = S := by
        unfold USet.pop
        rw [hlen]
        simp only [USet.add1, Nat.add_sub_cancel, List.getD_eq_getElem?_getD, List.dropLast_concat]
        simp only [List.getElem?_concat_length, Option.getD_some, if_true, USet.take, USet.put, mdel_mput hnot, wrap_back i2.1 i2.2]
      rw [hpop]
      exact i3
    · rw [if_neg hok]; exact ⟨i1, i2, i3⟩
  | @spend S p _ ih =>
    obtain ⟨i1, i2, i3⟩ := ih
    unfold USet.spend
    by_cases hok : S.has p = true
    · rw [if_pos hok]
      refine ⟨nd_mdel i1, wrap_range _, ?_⟩
      have hlen : (S.spend1 p).steps.length = S.steps.length + 1 := by simp [USet.spend1]
      rw [hlen, USet.backN]
      obtain ⟨v, hv⟩ : ∃ v, mget S.coins p = some v := by
        unfold USet.has at hok
        cases hg : mget S.coins p with
        | none => rw [hg] at hok; cases hok
        | some v => exact ⟨v, rfl⟩
      have hget : S.get p = v := by simp [USet.get, hv]
      have hpop : Alike (S.spend1 p).pop S := by
        unfold USet.pop
        rw [hlen]
        simp only [USet.spend1, Nat.add_sub_cancel, List.getD_eq_getElem?_getD, List.dropLast_concat]
        simp only [List.getElem?_concat_length, Option.getD_some, Bool.false_eq_true, if_false, USet.take, USet.put, hget, wrap_forth i2.1 i2.2]
        exact ⟨mput_mdel i1 hv, nd_mput (nd_mdel i1), rfl, rfl⟩
      exact (Alike.backN _ hpop).trans i3
    · rw [if_neg hok]; exact ⟨i1, i2, i3⟩

theorem Reach.undone {S : USet} (h : Reach S) : (S.back 0).coins.length = 0 ∧ (S.back 0).total = 0 := by
  have := h.facts.2.2
  rw [USet.back, if_pos (Nat.zero_le _), Nat.sub_zero]
  refine ⟨?_, this.total⟩
  rw [this.coins.length_eq]
  rfl
end Go.Proofs.Ytfdmlpdhngmbiaa
