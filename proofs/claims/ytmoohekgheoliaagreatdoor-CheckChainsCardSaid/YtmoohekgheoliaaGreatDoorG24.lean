/- Parts Pd Wa Wb Pe Va. -/
import Derived.Test.YtmoohekgheoliaaGreatDoorG20
import Derived.Test.YtmoohekgheoliaaGreatDoorG23
import Derived.Test.YtmoohekgheoliaaGreatDoorG14
import Derived.Lib.Bytealg
import Derived.Laws.Externs
import Derived.Shelf.GgSortFunc.InsertionK
import Derived.Shelf.SlSortCmp.QuietGrown
set_option linter.unusedSimpArgs false
set_option linter.unusedVariables false
namespace Go.Proofs.YtmoohekgheoliaaGreatDoor
set_option maxRecDepth 100000
open Go.Sx
def keysND (l : List (Pt × Coin)) : Prop := (l.map (·.1)).Nodup
theorem mdel_filter : ∀ {l : List (Pt × Coin)} {k : Pt}, keysND l → mdel l k = l.filter (fun x => x.1 ≠ k)
  | [], k, _ => rfl
  | x :: r, k, h => by
    simp only [keysND, List.map_cons, List.nodup_cons] at h
    simp only [mdel]
    by_cases hk : x.1 = k
    · have hr : r.filter (fun x => x.1 ≠ k) = r := by
        rw [List.filter_eq_self]
        intro y hy
        have : y.1 ≠ k := fun e => h.1 (by rw [hk, ← e]; exact List.mem_map.2 ⟨y, hy, rfl⟩)
        simpa using this
      rw [if_pos hk, List.filter_cons_of_neg (by simpa using hk), hr]
    · rw [if_neg hk, List.filter_cons_of_pos (by simpa using hk), mdel_filter h.2]
theorem mput_perm : ∀ {l : List (Pt × Coin)} {k : Pt} {v : Coin}, keysND l → (mput l k v).Perm ((k, v) :: l.filter (fun x => x.1 ≠ k))
  | [], k, v, _ => List.Perm.refl _
  | x :: r, k, v, h => by
    simp only [keysND, List.map_cons, List.nodup_cons] at h
    simp only [mput]
    by_cases hk : x.1 = k
    · have hr : r.filter (fun x => x.1 ≠ k) = r := by
        rw [List.filter_eq_self]
        intro y hy
        have : y.1 ≠ k := fun e => h.1 (by rw [hk, ← e]; exact List.mem_map.2 ⟨y, hy, rfl⟩)
        simpa using this
      rw [if_pos hk, List.filter_cons_of_neg (by simpa using hk), hr]
    · rw [if_neg hk, List.filter_cons_of_pos (by simpa using hk)]
      exact ((mput_perm h.2).cons x).trans (List.Perm.swap _ _ _)
theorem nd_filter {l : List (Pt × Coin)} {k : Pt} (h : keysND l) : keysND (l.filter (fun x => x.1 ≠ k)) := by
  have := (List.filter_sublist (p := fun x : Pt × Coin => decide (x.1 ≠ k)) (l := l)).map (·.1)
  exact h.sublist this
theorem nd_mdel {l : List (Pt × Coin)} {k : Pt} (h : keysND l) : keysND (mdel l k) := by
  rw [mdel_filter h]; exact nd_filter h
theorem nd_mput {l : List (Pt × Coin)} {k : Pt} {v : Coin} (h : keysND l) : keysND (mput l k v) := by
  have hp := (mput_perm (k := k) (v := v) h).map (·.1)
  unfold keysND
  rw [hp.nodup_iff, List.map_cons, List.nodup_cons]
  refine ⟨fun hm => ?_, nd_filter h⟩
  obtain ⟨y, hy, he⟩ := List.mem_map.1 hm
  have := (List.mem_filter.1 hy).2
  simp [he] at this
theorem mget_key : ∀ {l : List (Pt × Coin)} {k : Pt}, (mget l k).isSome = false → ∀ x ∈ l, x.1 ≠ k
  | [], k, _, x, hx => by cases hx
  | y :: r, k, h, x, hx => by
    simp only [mget] at h
    by_cases hk : y.1 = k
    · rw [if_pos hk] at h; cases h
    · rw [if_neg hk] at h
      rcases List.mem_cons.1 hx with rfl | hx
      · exact hk
      · exact mget_key h x hx
theorem mget_mem : ∀ {l : List (Pt × Coin)} {k : Pt} {v : Coin}, mget l k = some v → (k, v) ∈ l
  | [], k, v, h => by cases h
  | y :: r, k, v, h => by
    simp only [mget] at h
    by_cases hk : y.1 = k
    · rw [if_pos hk] at h; cases h; rw [← hk]; simp
    · rw [if_neg hk] at h; exact List.mem_cons_of_mem _ (mget_mem h)
theorem wrap_add (a b : Int) : IntKind.i64.wrap (IntKind.i64.wrap a + b) = IntKind.i64.wrap (a + b) := by
  have e1 : IntKind.i64.bits = 64 := rfl
  have e2 : IntKind.i64.signed = true := rfl
  simp only [IntKind.wrap, e1, e2, Bool.true_and]
  split <;> split <;> split <;> rename_i h h' h'' <;> simp only [ge_iff_le, decide_eq_true_eq] at h h' h'' <;> omega
theorem wrap_sub (a b : Int) : IntKind.i64.wrap (IntKind.i64.wrap a - b) = IntKind.i64.wrap (a - b) := by
  have := wrap_add a (-b)
  simpa [Int.sub_eq_add_neg] using this
def sumC : List (Pt × Coin) → Int
  | [] => 0
  | x :: r => x.2.amt.toInt + sumC r
theorem sumC_perm {l l' : List (Pt × Coin)} (h : l.Perm l') : sumC l = sumC l' := by
  induction h with
  | nil => rfl
  | cons x _ ih => simp only [sumC, ih]
  | swap x y l => simp only [sumC]; omega
  | trans _ _ h1 h2 => rw [h1, h2]
theorem mdel_perm : ∀ {l : List (Pt × Coin)} {k : Pt} {v : Coin}, mget l k = some v → ((k, v) :: mdel l k).Perm l
  | [], _, _, h => by cases h
  | x :: r, k, v, h => by
    simp only [mget] at h
    simp only [mdel]
    by_cases hk : x.1 = k
    · rw [if_pos hk] at h ⊢
      cases h
      obtain ⟨a, b⟩ := x
      subst hk
      exact List.Perm.refl _
    · rw [if_neg hk] at h ⊢
      exact (List.Perm.swap _ _ _).trans ((mdel_perm h).cons x)
theorem mget_of_mem : ∀ {l : List (Pt × Coin)} {k : Pt} {v : Coin}, keysND l → (k, v) ∈ l → mget l k = some v
  | x :: r, k, v, hn, h => by
    simp only [keysND, List.map_cons, List.nodup_cons] at hn
    simp only [mget]
    rcases List.mem_cons.1 h with rfl | h
    · simp
    · have : x.1 ≠ k := fun e => hn.1 (e ▸ List.mem_map.2 ⟨_, h, rfl⟩)
      rw [if_neg this]
      exact mget_of_mem hn.2 h
structure Inv (S : USet) : Prop where
  nd : keysND S.coins
  tot : S.total = IntKind.i64.wrap (sumC S.coins)
theorem Inv.empty : Inv USet.empty := ⟨List.nodup_nil, rfl⟩
theorem okB_has {S : USet} {p : Pt} {c : Coin} (h : S.okB p c = true) : S.has p = false := by
  simp only [USet.okB, Bool.and_eq_true, Bool.not_eq_true'] at h
  exact h.1.2
theorem Inv.add {S : USet} (h : Inv S) (p : Pt) (c : Coin) : Inv (S.add p c) := by
  unfold USet.add
  split
  · rename_i hok
    have hh := mget_key (okB_has hok)
    refine ⟨nd_mput h.nd, ?_⟩
    simp only [USet.add1, USet.put, h.tot, wrap_add]
    congr 1
    have hf : S.coins.filter (fun x => x.1 ≠ p) = S.coins := by
      rw [List.filter_eq_self]
      intro y hy
      simpa using hh y hy
    have := sumC_perm (mput_perm (k := p) (v := c) h.nd)
    rw [hf] at this
    rw [this]
    simp only [sumC]
    omega
  · exact h
theorem has_get {S : USet} {p : Pt} (h : S.has p = true) : mget S.coins p = some (S.get p) := by
  unfold USet.has at h
  unfold USet.get
  cases hm : mget S.coins p with
  | none => rw [hm] at h; cases h
  | some v => rfl
theorem spend_coins {S : USet} {p : Pt} (h : S.has p = true) : (S.spend p).coins = mdel S.coins p ∧ (S.spend p).total = IntKind.i64.wrap (S.total - (S.get p).amt.toInt) := by
  unfold USet.spend
  rw [if_pos h]
  exact ⟨rfl, rfl⟩
theorem sum_spend {S : USet} {p : Pt} (h : S.has p = true) : sumC (S.spend p).coins = sumC S.coins - (S.get p).amt.toInt ∧ (S.spend p).coins.length + 1 = S.coins.length := by
  have hp := mdel_perm (has_get h)
  rw [(spend_coins h).1]
  have h1 := sumC_perm hp
  have h2 := hp.length_eq
  simp only [sumC, List.length_cons] at h1 h2
  omega
theorem Inv.spend {S : USet} (h : Inv S) (p : Pt) : Inv (S.spend p) := by
  by_cases hh : S.has p = true
  · refine ⟨by rw [(spend_coins hh).1]; exact nd_mdel h.nd, ?_⟩
    rw [(spend_coins hh).2, (sum_spend hh).1, h.tot, wrap_sub]
  · unfold USet.spend
    rw [if_neg hh]
    exact h
section
variable {S : USet} {R : RC} {zs : List (Pt × Coin)}
structure TwinZ (S : USet) (R : RC) (zs : List (Pt × Coin)) : Prop where
  P : R.P = zs.map (·.1)
  C : R.C = zs.map (·.2)
  perm : zs.Perm S.coins
  srt : zs.Pairwise fun a b => ltPt a.1 b.1 = true
  inv : Inv S
  amt : ∀ x ∈ zs, 1 ≤ x.2.amt.toInt
  most : sumC zs ≤ 1125899906842624
def Twin (S : USet) (R : RC) : Prop := ∃ zs, TwinZ S R zs
theorem sumC_append (a b : List (Pt × Coin)) : sumC (a ++ b) = sumC a + sumC b := by
  induction a with
  | nil => simp [sumC]
  | cons x r ih => simp only [List.cons_append, sumC, ih]; omega
theorem sumC_pos {l : List (Pt × Coin)} (h : ∀ x ∈ l, 1 ≤ x.2.amt.toInt) : 0 ≤ sumC l := by
  induction l with
  | nil => simp [sumC]
  | cons x r ih =>
    have := h x (by simp)
    have := ih (fun y hy => h y (by simp [hy]))
    simp only [sumC]; omega
theorem ltPt_trans {a b c : Pt} (h1 : ltPt a b = true) (h2 : ltPt b c = true) : ltPt a c = true := ltPt_swo.trans a b c h1 h2
theorem ltPt_irr (a : Pt) : ltPt a a = false := ltPt_swo.irrefl a
theorem ltPt_asymm {a b : Pt} (h : ltPt a b = true) : ltPt b a = false := by
  cases h2 : ltPt b a with
  | false => rfl
  | true => have := ltPt_trans h h2; rw [ltPt_irr] at this; cases this
theorem posIn_split {p : Pt} : ∀ {zs : List (Pt × Coin)}, zs.Pairwise (fun a b => ltPt a.1 b.1 = true) → posIn p (zs.map (·.1)) ≤ zs.length ∧ (∀ x ∈ zs.take (posIn p (zs.map (·.1))), ltPt x.1 p = true) ∧ (∀ x ∈ zs.drop (posIn p (zs.map (·.1))), ltPt x.1 p = false)
  | [], _ => by simp [posIn]
  | z :: r, h => by
    rw [List.pairwise_cons] at h
    obtain ⟨h1, h2, h3⟩ := posIn_split (p := p) h.2
    simp only [List.map_cons, posIn]
    by_cases hz : ltPt z.1 p = true
    · rw [if_pos hz]
      refine ⟨by simp; omega, fun x hx => ?_, fun x hx => ?_⟩
      · rw [List.take_succ_cons] at hx
        rcases List.mem_cons.1 hx with rfl | hx
        · exact hz
        · exact h2 x hx
      · rw [List.drop_succ_cons] at hx
        exact h3 x hx
    · rw [if_neg hz]
      have hz' : ltPt z.1 p = false := by simpa using hz
      refine ⟨by simp, fun x hx => by simp at hx, fun x hx => ?_⟩
      rw [List.drop_zero] at hx
      rcases List.mem_cons.1 hx with rfl | hx
      · exact hz'
      · cases hy : ltPt x.1 p with
        | false => rfl
        | true => have := ltPt_trans (h.1 x hx) hy; rw [hz'] at this; cases this
theorem TwinZ.len (h : TwinZ S R zs) : R.P.length = zs.length ∧ R.C.length = zs.length := by rw [h.P, h.C]; simp
theorem TwinZ.nd (h : TwinZ S R zs) : keysND zs := by
  have := h.perm.map (fun x : Pt × Coin => x.1)
  exact this.nodup_iff.2 h.inv.nd
theorem TwinZ.at (h : TwinZ S R zs) {i : Nat} (hi : i < zs.length) : R.P.getD i default = (zs[i]).1 ∧ R.C.getD i default = (zs[i]).2 ∧ mget S.coins (zs[i]).1 = some (zs[i]).2 := by
  refine ⟨?_, ?_, mget_of_mem h.inv.nd (h.perm.mem_iff.1 (List.getElem_mem hi))⟩
  · rw [h.P]; simp [List.getD_eq_getElem?_getD, hi]
  · rw [h.C]; simp [List.getD_eq_getElem?_getD, hi]
theorem TwinZ.total (h : TwinZ S R zs) : S.total = sumC zs ∧ 0 ≤ sumC zs := by
  have h0 := sumC_pos h.amt
  have := h.most
  refine ⟨?_, h0⟩
  rw [h.inv.tot, ← sumC_perm h.perm]
  exact wrap_i64 (by omega) (by omega)
theorem TwinZ.sumN (h : TwinZ S R zs) : ∀ i, i ≤ zs.length → R.sumN i = IntKind.i64.wrap (sumC (zs.take i))
  | 0, _ => by simp [RC.sumN, sumC]; rfl
  | i + 1, hi => by
    have hil : i < zs.length := by omega
    rw [RC.sumN, h.sumN i (by omega), wrap_add, (h.at hil).2.1, List.take_succ_eq_append_getElem hil, sumC_append]
    simp [sumC]
theorem TwinZ.sum (h : TwinZ S R zs) : R.sumN R.C.length = S.total := by
  rw [h.len.2, h.sumN _ (Nat.le_refl _), List.take_length, h.inv.tot, sumC_perm h.perm]
theorem mget_some_iff : ∀ {l : List (Pt × Coin)} {k : Pt}, (mget l k).isSome = true ↔ k ∈ l.map (·.1)
  | [], _ => by simp [mget]
  | x :: r, k => by
    rw [mget]
    by_cases e : x.1 = k
    · rw [if_pos e]; simp [e]
    · rw [if_neg e, mget_some_iff, List.map_cons, List.mem_cons]
      exact ⟨Or.inr, fun h => h.resolve_left fun h => e h.symm⟩
theorem TwinZ.has_iff (h : TwinZ S R zs) (p : Pt) : S.has p = true ↔ p ∈ zs.map (·.1) := by
  rw [USet.has, mget_some_iff]
  exact (h.perm.map (·.1)).mem_iff.symm
theorem TwinZ.pos (h : TwinZ S R zs) (p : Pt) : R.pos p = posIn p (zs.map (·.1)) := by rw [RC.pos, h.P]
theorem TwinZ.isAt_iff (h : TwinZ S R zs) (p : Pt) : R.isAt p = true ↔ p ∈ zs.map (·.1) := by
  obtain ⟨h1, h2, h3⟩ := posIn_split (p := p) h.srt
  have hp := h.pos p
  unfold RC.isAt
  simp only [Bool.and_eq_true, decide_eq_true_eq, hp, h.len.1]
  constructor
  · rintro ⟨hl, he⟩
    rw [(h.at hl).1] at he
    exact List.mem_map.2 ⟨_, List.getElem_mem hl, he⟩
  · intro hm
    obtain ⟨x, hx, rfl⟩ := List.mem_map.1 hm
    have hx' : x ∈ zs.drop (posIn x.1 (zs.map (·.1))) := by
      rw [← List.take_append_drop (posIn x.1 (zs.map (·.1))) zs] at hx
      rcases List.mem_append.1 hx with hx | hx
      · have := h2 x hx; rw [ltPt_irr] at this; cases this
      · exact hx
    have hl : posIn x.1 (zs.map (·.1)) < zs.length := by
      have := List.length_pos_of_mem hx'
      rw [List.length_drop] at this; omega
    refine ⟨hl, ?_⟩
    rw [(h.at hl).1]
    have hd := List.drop_eq_getElem_cons hl
    rw [hd] at hx'
    rcases List.mem_cons.1 hx' with e | hx'
    · rw [← e]
    · have hs := h.srt.drop (i := posIn x.1 (zs.map (·.1)))
      rw [hd, List.pairwise_cons] at hs
      have h4 := hs.1 x hx'
      have h5 := h3 _ (by rw [hd]; exact List.mem_cons_self ..)
      rw [h5] at h4; cases h4
theorem TwinZ.isAt (h : TwinZ S R zs) (p : Pt) : R.isAt p = S.has p := by
  rw [Bool.eq_iff_iff, h.isAt_iff, h.has_iff]
theorem TwinZ.okB (h : TwinZ S R zs) (p : Pt) (c : Coin) : R.okB p c = S.okB p c := by
  have ht := h.total
  have hm := h.most
  rw [Bool.eq_iff_iff]
  simp only [RC.okB, USet.okB, h.isAt, h.sum, bothB, mayB, Bool.and_eq_true, Bool.not_eq_true', decide_eq_false_iff_not, decide_eq_true_eq, ht.1]
  have hc := c.amt.toInt_lt
  by_cases ha : 1 ≤ c.amt.toInt ∧ c.amt.toInt ≤ 1125899906842624
  · rw [wrap_i64 (n := 1125899906842624 - c.amt.toInt) (by omega) (by omega), wrap_i64 (n := sumC zs + c.amt.toInt) (by omega) (by omega)]
    constructor
    · rintro ⟨⟨⟨⟨⟨a1, a2⟩, a3⟩, a4⟩, a5⟩, a6⟩; exact ⟨⟨⟨⟨by omega, by omega⟩, by omega⟩, a1⟩, ⟨⟨⟨by omega, by omega⟩, ⟨by omega, by omega⟩⟩, ⟨by omega, by omega⟩⟩⟩
    · rintro ⟨⟨⟨⟨a1, a2⟩, a3⟩, a4⟩, ⟨⟨⟨a5, a6⟩, ⟨a7, a8⟩⟩, ⟨a9, a10⟩⟩⟩; exact ⟨⟨⟨⟨⟨a4, by omega⟩, by omega⟩, by omega⟩, by omega⟩, by omega⟩
  · constructor
    · rintro ⟨⟨⟨⟨⟨a1, a2⟩, a3⟩, a4⟩, a5⟩, a6⟩; omega
    · rintro ⟨⟨⟨⟨a1, a2⟩, a3⟩, a4⟩, ⟨⟨⟨a5, a6⟩, ⟨a7, a8⟩⟩, ⟨a9, a10⟩⟩⟩; omega
theorem TwinZ.get (h : TwinZ S R zs) (p : Pt) : R.get p = S.get p := by
  unfold RC.get
  by_cases hp : R.isAt p = true
  · rw [if_pos hp]
    have hp' := hp
    simp only [RC.isAt, Bool.and_eq_true, decide_eq_true_eq] at hp'
    have hl : R.pos p < zs.length := by rw [← h.len.1]; exact hp'.1
    have ha := h.at hl
    rw [hp'.2] at ha
    have h2 := ha.2.2
    rw [← ha.1] at h2
    unfold USet.get
    rw [h2, ha.2.1]
    rfl
  · rw [if_neg hp]
    rw [h.isAt] at hp
    unfold USet.has at hp
    unfold USet.get
    cases hm : mget S.coins p with
    | none => rfl
    | some v => rw [hm] at hp; exact absurd rfl hp
theorem TwinZ.add1 (h : TwinZ S R zs) {p : Pt} {c : Coin} (hok : S.okB p c = true) : Twin (S.add1 p c) (R.add1 p c) := by
  obtain ⟨h1, h2, h3⟩ := posIn_split (p := p) h.srt
  have hhas := okB_has hok
  have hnot : p ∉ zs.map (·.1) := fun hm => by rw [(h.has_iff p).2 hm] at hhas; cases hhas
  have hokR := hok
  rw [← h.okB] at hokR
  simp only [RC.okB, h.sum, Bool.and_eq_true, Bool.not_eq_true', decide_eq_false_iff_not, h.total.1] at hokR
  obtain ⟨⟨⟨⟨⟨_, _⟩, _⟩, a4⟩, a5⟩, a6⟩ := hokR
  have h0 := h.total.2
  have hm := h.most
  rw [wrap_i64 (by omega) (by omega)] at a6
  have hzp : (zs.take (R.pos p) ++ (p, c) :: zs.drop (R.pos p)).Perm ((p, c) :: zs) := by
    refine List.perm_middle.trans ?_
    rw [List.take_append_drop]
  have hinv : Inv (S.add1 p c) := by
    have := h.inv.add p c
    unfold USet.add at this
    rwa [if_pos hok] at this
  refine ⟨zs.take (R.pos p) ++ (p, c) :: zs.drop (R.pos p), ?_, ?_, ?_, ?_, hinv, ?_, ?_⟩
  · simp only [RC.add1, h.P, List.map_append, List.map_cons, List.map_take, List.map_drop]
  · simp only [RC.add1, h.C, List.map_append, List.map_cons, List.map_take, List.map_drop]
  · have hc : (S.add1 p c).coins = S.coins ++ [(p, c)] := by
      simp only [USet.add1, USet.put]
      exact mput_none (mget_key hhas)
    rw [hc]
    exact (hzp.trans (h.perm.cons _)).trans (List.perm_append_singleton _ _).symm
  · rw [h.pos]
    have hsplit := h.srt
    rw [← List.take_append_drop (posIn p (zs.map (·.1))) zs, List.pairwise_append] at hsplit
    obtain ⟨s1, s2, s3⟩ := hsplit
    rw [List.pairwise_append]
    refine ⟨s1, ?_, fun x hx y hy => ?_⟩
    · rw [List.pairwise_cons]
      refine ⟨fun y hy => ?_, s2⟩
      have hy1 := h3 y hy
      have hne : y.1 ≠ p := fun e => hnot (List.mem_map.2 ⟨y, List.mem_of_mem_drop hy, e⟩)
      show ltPt p y.1 = true
      cases hl : ltPt p y.1 with
      | true => rfl
      | false => exact absurd (ltPt_total _ _ hl hy1).symm hne
    · rcases List.mem_cons.1 hy with rfl | hy
      · exact h2 x hx
      · exact s3 x hx y hy
  · intro x hx
    rcases List.mem_cons.1 (hzp.mem_iff.1 hx) with rfl | hx
    · show 1 ≤ c.amt.toInt; omega
    · exact h.amt x hx
  · rw [sumC_perm hzp]
    simp only [sumC]
    omega
theorem TwinZ.spend1 (h : TwinZ S R zs) {p : Pt} (hok : S.has p = true) : Twin (S.spend1 p) (R.spend1 p) := by
  have hat : R.isAt p = true := by rw [h.isAt]; exact hok
  simp only [RC.isAt, Bool.and_eq_true, decide_eq_true_eq] at hat
  have hl : R.pos p < zs.length := by rw [← h.len.1]; exact hat.1
  have ha := h.at hl
  rw [hat.2] at ha
  have hsplit : zs = zs.take (R.pos p) ++ zs[R.pos p] :: zs.drop (R.pos p + 1) := by
    rw [← List.drop_eq_getElem_cons hl, List.take_append_drop]
  have hsub : (zs.take (R.pos p) ++ zs.drop (R.pos p + 1)).Sublist zs := by
    conv => rhs; rw [hsplit]
    exact (List.Sublist.refl _).append (List.sublist_cons_self _ _)
  have hinv : Inv (S.spend1 p) := by
    have := h.inv.spend p
    unfold USet.spend at this
    rwa [if_pos hok] at this
  have hpm : (zs[R.pos p] :: (zs.take (R.pos p) ++ zs.drop (R.pos p + 1))).Perm zs := by
    conv => rhs; rw [hsplit]
    exact List.perm_middle.symm
  have hv : zs[R.pos p] = (p, S.get p) := by
    have h1 := ha.1
    have h2 := ha.2.2
    rw [← h1] at h2
    have : S.get p = (zs[R.pos p]).2 := by unfold USet.get; rw [h2]; rfl
    exact Prod.ext h1.symm this.symm
  have hsum := sumC_perm hpm
  refine ⟨zs.take (R.pos p) ++ zs.drop (R.pos p + 1), ?_, ?_, ?_, h.srt.sublist hsub, hinv, fun x hx => h.amt x (hsub.mem hx), ?_⟩
  · simp only [RC.spend1, h.P, List.map_append, List.map_take, List.map_drop]
  · simp only [RC.spend1, h.C, List.map_append, List.map_take, List.map_drop]
  · have hd := mdel_perm (has_get hok)
    have hc : (S.spend1 p).coins = mdel S.coins p := rfl
    rw [hc]
    rw [hv] at hpm
    exact List.Perm.cons_inv ((hpm.trans h.perm).trans hd.symm)
  · have hm := h.most
    have := h.amt _ (List.getElem_mem hl)
    simp only [sumC] at hsum
    omega
theorem Twin.empty : Twin USet.empty RC.empty := ⟨[], rfl, rfl, List.Perm.refl _, List.Pairwise.nil, Inv.empty, fun _ h => (by cases h), by decide⟩
theorem Twin.add {S : USet} {R : RC} (h : Twin S R) (p : Pt) (c : Coin) : Twin (S.add p c) (R.add p c) := by
  obtain ⟨zs, h⟩ := h
  unfold USet.add RC.add
  rw [h.okB]
  split
  · rename_i hok; exact h.add1 hok
  · exact ⟨zs, h⟩
theorem Twin.spend {S : USet} {R : RC} (h : Twin S R) (p : Pt) : Twin (S.spend p) (R.spend p) := by
  obtain ⟨zs, h⟩ := h
  unfold USet.spend RC.spend
  rw [h.isAt]
  split
  · rename_i hok; exact h.spend1 hok
  · exact ⟨zs, h⟩
end
end Go.Proofs.YtmoohekgheoliaaGreatDoor
namespace Go.Proofs.YtmoohekgheoliaaGreatDoor
set_option maxRecDepth 100000
open Go.Sx
def and7 (n : Int) : Int := bitI .and .i64 n 7
def seedU (n : Int) : H8 := ⟨117, byteI (IntKind.u8.wrap (and7 n)), 0, 0, 0, 0, 0, 0⟩
theorem seedU_x (n : Int) : (seedU n).x = .agg [.raw (.int .u8 117), .raw (.int .u8 (IntKind.u8.wrap (bitI .and .i64 n 7))), .raw (.int .u8 0), .raw (.int .u8 0), .raw (.int .u8 0), .raw (.int .u8 0), .raw (.int .u8 0), .raw (.int .u8 0)] := by
  show CV.agg [.raw (.int .u8 117), .raw (u8 (byteI (IntKind.u8.wrap (and7 n)))), .raw (.int .u8 0), .raw (.int .u8 0), .raw (.int .u8 0), .raw (.int .u8 0), .raw (.int .u8 0), .raw (.int .u8 0)] = _
  rw [u8_byteI]; rfl
theorem lend_plainE {M : Mem} {rd : List Nat} {c c' : CV} (e : c' = c) (hc : c.ok (fun _ => false) = true) : Lends M rd c (.plain c') := by
  subst e; exact lend_plain hc
def ownerH (n : Int) : H8 := treeH (seedU n)
theorem owner_can (n : Int) : Reads Tryz.prog 25 [.plain (.one (.raw (.int .i64 n)))] [] (hashX (ownerH n)) := by
  refine Reads.of Tryz.T_ok Tryz.func25 rfl _ _ _ rfl rfl (fun C hC => ?_)
  (replace hC : C.n0 = 1 := hC; change Tri _ _ _ ⟨_, _, 1⟩ _)
  refine Tri.of Tryz.mixed Tryz.T_ok ?_
  (refine wBegin ?_; ((conv => arg 5; whnf); repeat (refine xS ?_; conv => arg 5; whnf)))
  (apply wP; exact (call_op rfl (entersB_of Tryz.func48 (by kernel_rfl)) rfl ((tree_can (seedU n)).at [] ⟨lend_plainE (seedU_x n) rfl, trivial⟩ trivial)); ((conv => arg 5; whnf); repeat (refine xS ?_; conv => arg 5; whnf)))
  exact wD (Ends.plain (.inr rfl) rfl rfl)
theorem wrap_bounds (n : Int) : -2 ^ 63 ≤ IntKind.i64.wrap n ∧ IntKind.i64.wrap n < 2 ^ 63 := by
  rw [IntKind.wrap_i64]; omega
def ptOf (n : Int) : Pt := ⟨⟨116, byteI (IntKind.u8.wrap (shrI .i64 n 8)), 0, 0, 0, 0, 0, 0⟩, Int64.ofInt (bitI .and .i64 n 255)⟩
theorem ptOf_x (n : Int) : (ptOf n).cv = .agg [.raw (.int .u8 116), .raw (.int .u8 (IntKind.u8.wrap (shrI .i64 n 8))), .raw (.int .u8 0), .raw (.int .u8 0), .raw (.int .u8 0), .raw (.int .u8 0), .raw (.int .u8 0), .raw (.int .u8 0), .raw (.int .i64 (bitI .and .i64 n 255))] := by
  show CV.agg [.raw (.int .u8 116), .raw (u8 (byteI (IntKind.u8.wrap (shrI .i64 n 8)))), .raw (.int .u8 0), .raw (.int .u8 0), .raw (.int .u8 0), .raw (.int .u8 0), .raw (.int .u8 0), .raw (.int .u8 0), .raw (.int .i64 (Int64.ofInt (bitI .and .i64 n 255)).toInt)] = _
  have hb : -2 ^ 63 ≤ bitI .and .i64 n 255 ∧ bitI .and .i64 n 255 < 2 ^ 63 := wrap_bounds _
  rw [u8_byteI, Int64.toInt_ofInt_of_le hb.1 hb.2]
theorem point_can (n : Int) : Reads Tryz.prog 24 [.plain (.one (.raw (.int .i64 n)))] [] (.cv (ptOf n).cv) := by
  refine Reads.of Tryz.T_ok Tryz.func24 rfl _ _ _ rfl rfl (fun C hC => ?_)
  (replace hC : C.n0 = 1 := hC; change Tri _ _ _ ⟨_, _, 1⟩ _)
  refine Tri.of Tryz.mixed Tryz.T_ok ?_
  (refine wBegin ?_; ((conv => arg 5; whnf); repeat (refine xS ?_; conv => arg 5; whnf)))
  exact wD (Ends.plain (.inr rfl) rfl (congrArg XV.cv (ptOf_x n).symm))
structure LCoin where
  who : Int64
  amt : Int64
  height : Int64
  base : Bool
  deriving DecidableEq, Inhabited
def LCoin.cells (c : LCoin) : List Value := [i64 c.who, i64 c.amt, i64 c.height, .bool c.base]
def coinsF (l : List LCoin) := rowOf LCoin.cells l
structure PlanM where
  ins : List UInt8
  outs : List LCoin
  fwds : List FwdM
  bend : UInt8
def PlanM.ac (p : PlanM) : List AC := [.row 1 p.ins.length (rowB p.ins), .row 4 p.outs.length (coinsF p.outs), .row 11 p.fwds.length (fwdsF p.fwds), .raw (u8 p.bend)]
end Go.Proofs.YtmoohekgheoliaaGreatDoor
namespace Go.Proofs.YtmoohekgheoliaaGreatDoor
set_option maxRecDepth 100000
open Go.Sx
def LCoin.coin (c : LCoin) : Coin := ⟨ownerH c.who.toInt, c.amt, c.height, c.base⟩
structure FillM where
  S : USet
  R : RC
  I : List LCoin
def fillStep (f : FillM) (c : LCoin) : FillM := ⟨f.S.add (ptOf (f.I.length : Int)) c.coin, f.R.add (ptOf (f.I.length : Int)) c.coin, if f.R.okB (ptOf (f.I.length : Int)) c.coin = true then f.I ++ [c] else f.I⟩
def fill0 : FillM := ⟨USet.empty, RC.empty, []⟩
def fillN (l : List LCoin) : Nat → FillM
  | 0 => fill0
  | i + 1 => fillStep (fillN l i) (l.getD i default)
theorem uadd_len (S : USet) (p : Pt) (c : Coin) : (S.add p c).steps.length ≤ S.steps.length + 1 := by
  unfold USet.add
  split
  · simp [USet.add1]
  · omega
theorem radd_len (R : RC) (p : Pt) (c : Coin) (h : R.P.length = R.C.length) : (R.add p c).P.length = (R.add p c).C.length ∧ (R.add p c).P.length ≤ R.P.length + 1 := by
  unfold RC.add
  split
  · simp only [RC.add1, List.length_append, List.length_cons, List.length_take, List.length_drop]
    have : R.pos p ≤ R.P.length := posIn_le p R.P
    omega
  · exact ⟨h, by omega⟩
theorem fillN_len (l : List LCoin) : ∀ i, (fillN l i).S.steps.length ≤ i ∧ (fillN l i).R.P.length = (fillN l i).R.C.length ∧ (fillN l i).R.P.length ≤ i ∧ (fillN l i).I.length ≤ i
  | 0 => ⟨Nat.le_refl _, rfl, Nat.le_refl _, Nat.le_refl _⟩
  | i + 1 => by
    obtain ⟨h1, h2, h3, h4⟩ := fillN_len l i
    have a1 := uadd_len (fillN l i).S (ptOf ((fillN l i).I.length : Int)) (l.getD i default).coin
    have a2 := radd_len (fillN l i).R (ptOf ((fillN l i).I.length : Int)) (l.getD i default).coin h2
    refine ⟨?_, a2.1, ?_, ?_⟩
    · show ((fillN l i).S.add _ _).steps.length ≤ _; omega
    · show ((fillN l i).R.add _ _).P.length ≤ _; omega
    · show (if (fillN l i).R.okB _ _ = true then (fillN l i).I ++ [l.getD i default] else (fillN l i).I).length ≤ _
      split
      · rw [List.length_append]; simp only [List.length_cons, List.length_nil]; omega
      · omega
def fillPack (f : FillM) : List Chunk := [.abs (usetP f.S), .abs (rcP f.R), .vec 79 4 f.I.length (coinsF f.I)]
def fillX (n : Nat) : XV := .tup [.one (.inn 0 0), .one (.inn 0 1), .one (.ins 0 3 2 n)]
def fill12St (l : List LCoin) (i : Nat) : St :=
  ⟨[some (XV.sv (.slc 0 4 0 l.length)), none, none, none, none, some (XV.sv (.ptr 1 0 0 0)), some (XV.sv (.ptr 2 0 0 0)), some (XV.sv (.slc 3 4 0 (fillN l i).I.length)), some (XV.int .i64 i)] ++ List.replicate 60 none,
   [(0, .ro 4 l.length (coinsF l)), (1, .abs (usetP (fillN l i).S)), (2, .abs (rcP (fillN l i).R)), (3, .vec 79 4 (fillN l i).I.length (coinsF (fillN l i).I))], 4⟩
theorem coins_snoc {l : List LCoin} {c : LCoin} {g : Nat → List Value} {k : Nat} (hg : g 0 = c.cells) (hk : k < l.length + 1) : joinF (coinsF l) l.length g k = coinsF (l ++ [c]) k := by
  simp only [joinF, nblt]
  by_cases h : k < l.length
  · simp [h, coinsF, rowOf, List.getD_eq_getElem?_getD, List.getElem?_append_left h]
  · obtain rfl : k = l.length := by omega
    simp [coinsF, rowOf, hg]
set_option maxHeartbeats 4000000 in
theorem fill_can (l : List LCoin) (hl : l.length ≤ 1000) : Makes Tryz.prog 11 [.row 4 l.length (coinsF l)] [] (fillX (fillN l l.length).I.length) (.abs (PackP (fillPack (fillN l l.length)))) := by
  refine Makes.of Tryz.T_ok Tryz.func11 rfl _ _ _ _ rfl rfl rfl rfl 18 (fun C hC => ?_)
  (replace hC : C.n0 = 1 := hC; change Tri _ _ _ ⟨_, _, 1⟩ _)
  (refine Tri.cut 3 Tryz.mixed Tryz.T_ok ?_; ((conv => arg 5; whnf); repeat (refine xS ?_; conv => arg 5; whnf)))
  (apply wP; exact (call_op rfl (entersB_of Tryz.func28 (by kernel_rfl)) rfl (new_spec)); ((conv => arg 5; whnf); repeat (refine xS ?_; conv => arg 5; whnf)))
  refine wD <| cutG <| Tri.ent (Ent.trans (Ent.nilc (c := 6) (e := 75) (cs := [.raw (.slice none 0 0), .raw (.slice none 0 0)]) (j := 0) rfl rfl 60 9)
    (Ent.trans (Ent.nilc (c := 6) (e := 75) (cs := [.slc 10 9 0 0, .raw (.slice none 0 0)]) (j := 1) rfl rfl 97 11)
    (Ent.trans (Ent.shut3 (i0 := 6) (i1 := 10) (i2 := 11) (M := RC.empty.mem) (inv := True) rfl trivial rfl rfl rfl rfl rfl rfl rfl rfl ⟨rfl, rfl⟩ ⟨rfl, rfl, Nat.le_refl _, fun i hi => absurd hi (Nat.not_lt_zero i)⟩ ⟨rfl, rfl, Nat.le_refl _, fun i hi => absurd hi (Nat.not_lt_zero i)⟩)
    (Ent.nils (t := 7) rfl 79 4)))) <| Tri.seq ?_
  (refine Tri.cut 1 Tryz.mixed Tryz.T_ok ?_; ((conv => arg 5; whnf); repeat (refine xS ?_; conv => arg 5; whnf)))
  refine wD <| cutG <| Tri.block ?_
  refine Tri.loop (α := { i : Nat // i ≤ l.length }) (fun i => fill12St l i.1) (fun i => l.length - i.1) ⟨0, Nat.zero_le _⟩ ?_ ?_
  · dsimp only
    unfold fill12St
    ((try dsimp only); refine Ent.renC [0, 4, 6, 12] hC ?_ ?_ <;> repeat' (first | exact trivial | exact rfl | exact ⟨_, rfl, rfl, rfl, Nat.le_refl _, fun _ _ => rfl⟩ | exact ⟨_, rfl, rfl, rfl, fun _ _ => rfl⟩ | exact ⟨_, rfl, rfl, rfl⟩ | exact ⟨_, rfl, rfl⟩ | refine ⟨_, rfl, rfl, rfl, by omega, fun k hk => ?_⟩ | refine ⟨?_, ?_⟩ | fail))
    · exact Nat.le_refl _
    · exact fun k hk => absurd hk (Nat.not_lt_zero _)
  rintro ⟨i, hi⟩
  dsimp only
  obtain ⟨b1, b2, b3, b4⟩ := fillN_len l i
  (refine Tri.cut 1 Tryz.mixed Tryz.T_ok ?_; ((conv => arg 5; whnf); repeat (refine xS ?_; conv => arg 5; whnf)))
  refine wC (fun h1 => ?_) (fun h1 => ?_)
  · (refine wGo ?_; ((conv => arg 5; whnf); repeat (refine xS ?_; conv => arg 5; whnf)))
    have h1' : i < l.length := (by (try simp only [ww] at *); omega)
    have hw : IntKind.i64.wrap ((i : Int) + 1) = ((i + 1 : Nat) : Int) := (by (try simp only [ww] at *); omega)
    have hst : fillN l (i + 1) = fillStep (fillN l i) (l.getD i default) := rfl
    obtain ⟨F, hF⟩ : ∃ F, fillN l i = F := ⟨_, rfl⟩
    rw [hF] at b1 b2 b3 b4 hst
    obtain ⟨c, hc⟩ : ∃ c, l.getD i default = c := ⟨_, rfl⟩
    refine wD <| cutG <| Tri.seq <| Tri.block <| Tri.of Tryz.mixed Tryz.T_ok ?_
    simp only [hF]
    (refine wBegin ?_; ((conv => arg 5; whnf); repeat (refine xS ?_; conv => arg 5; whnf)))
    (repeat (refine wN ?_ ?_; exact (by (try simp only [ww] at *); omega); refine wGo ?_; ((conv => arg 5; whnf); repeat (refine xS ?_; conv => arg 5; whnf))))
    simp only [Nat.zero_add, Int.toNat_natCast]
    (apply wP; exact (call_op rfl (entersB_of Tryz.func25 (by kernel_rfl)) rfl ((owner_can (l.getD i default).who.toInt).at [] ⟨lend_plain rfl, trivial⟩ trivial)); ((conv => arg 5; whnf); repeat (refine xS ?_; conv => arg 5; whnf)))
    (repeat (refine wN ?_ ?_; exact (by (try simp only [ww] at *); omega); refine wGo ?_; ((conv => arg 5; whnf); repeat (refine xS ?_; conv => arg 5; whnf))))
    simp only [Nat.zero_add, Int.toNat_natCast]
    (apply wP; exact (call_op rfl (entersB_of Tryz.func24 (by kernel_rfl)) rfl ((point_can (F.I.length : Int)).at [] ⟨lend_plain rfl, trivial⟩ trivial)); ((conv => arg 5; whnf); repeat (refine xS ?_; conv => arg 5; whnf)))
    (apply wP; exact (call_op rfl (entersB_of Tryz.func30 (by kernel_rfl)) rfl (lawCoin_spec (l.getD i default).coin _ _)); ((conv => arg 5; whnf); repeat (refine xS ?_; conv => arg 5; whnf)))
    (apply wP; exact (call_op rfl (entersB_of Tryz.func29 (by kernel_rfl)) rfl (uadd_spec F.S (ptOf (F.I.length : Int)) (l.getD i default).coin (by omega) rfl rfl)); ((conv => arg 5; whnf); repeat (refine xS ?_; conv => arg 5; whnf)))
    (apply wP; exact (call_op rfl (entersB_of Tryz.func24 (by kernel_rfl)) rfl ((point_can (F.I.length : Int)).at [] ⟨lend_plain rfl, trivial⟩ trivial)); ((conv => arg 5; whnf); repeat (refine xS ?_; conv => arg 5; whnf)))
    (apply wP; exact (call_op rfl (entersB_of Tryz.func31 (by kernel_rfl)) rfl (rcAdd_spec F.R (ptOf (F.I.length : Int)) (l.getD i default).coin b2 (by omega) rfl rfl)); ((conv => arg 5; whnf); repeat (refine xS ?_; conv => arg 5; whnf)))
    refine wC (fun h2 => ?_) (fun h2 => ?_)
    · (refine wGo ?_; ((conv => arg 5; whnf); repeat (refine xS ?_; conv => arg 5; whnf)))
      (repeat (refine wN ?_ ?_; exact (by (try simp only [ww] at *); omega); refine wGo ?_; ((conv => arg 5; whnf); repeat (refine xS ?_; conv => arg 5; whnf))))
      simp only [Nat.zero_add, Int.toNat_natCast]
      (refine wP _ _ (append_op Tryz.T_ok rfl rfl rfl rfl rfl [3, 55] (old_vec rfl rfl (Nat.le_refl _) rfl) (new_vec (lo := 0) rfl rfl (Nat.le_refl _) rfl) rfl (lt1 rfl) (by simp only [maxLen]; omega) (by dsimp only; omega)) ?_; ((conv => arg 5; whnf); repeat (refine xS ?_; conv => arg 5; whnf)))
      refine wD <| blockN <| cutG <| Tri.of Tryz.mixed Tryz.T_ok ?_
      (refine wBegin ?_; ((conv => arg 5; whnf); repeat (refine xS ?_; conv => arg 5; whnf)))
      refine wD <| loopN ⟨⟨i + 1, h1'⟩, by dsimp only; omega, ?_⟩
      rw [hw]
      dsimp only
      unfold fill12St
      rw [hst, fillStep, if_pos h2, List.length_append]
      ((try dsimp only); refine Ent.renC [0, 1, 2, 56] hC ?_ ?_ <;> repeat' (first | exact trivial | exact rfl | exact ⟨_, rfl, rfl, rfl, Nat.le_refl _, fun _ _ => rfl⟩ | exact ⟨_, rfl, rfl, rfl, fun _ _ => rfl⟩ | exact ⟨_, rfl, rfl, rfl⟩ | exact ⟨_, rfl, rfl⟩ | refine ⟨_, rfl, rfl, rfl, by omega, fun k hk => ?_⟩ | refine ⟨?_, ?_⟩ | fail))
      · exact Nat.le_refl _
      exact fun k hk => coins_snoc rfl hk
    · (refine wGo ?_; ((conv => arg 5; whnf); repeat (refine xS ?_; conv => arg 5; whnf)))
      refine wD <| blockN <| cutG <| Tri.of Tryz.mixed Tryz.T_ok ?_
      (refine wBegin ?_; ((conv => arg 5; whnf); repeat (refine xS ?_; conv => arg 5; whnf)))
      refine wD <| loopN ⟨⟨i + 1, h1'⟩, by dsimp only; omega, ?_⟩
      rw [hw]
      dsimp only
      unfold fill12St
      rw [hst, fillStep, if_neg (by rw [h2]; simp)]
      ((try dsimp only); refine Ent.renC [0, 1, 2, 3] hC ?_ ?_ <;> repeat' (first | exact trivial | exact rfl | exact ⟨_, rfl, rfl, rfl, Nat.le_refl _, fun _ _ => rfl⟩ | exact ⟨_, rfl, rfl, rfl, fun _ _ => rfl⟩ | exact ⟨_, rfl, rfl, rfl⟩ | exact ⟨_, rfl, rfl⟩ | refine ⟨_, rfl, rfl, rfl, by omega, fun k hk => ?_⟩ | refine ⟨?_, ?_⟩ | fail))
  · (refine wGo ?_; ((conv => arg 5; whnf); repeat (refine xS ?_; conv => arg 5; whnf)))
    have h1' : i = l.length := (by (try simp only [ww] at *); omega)
    subst h1'
    refine wD <| cutE <| loopX <| blockX <| cutG <| Tri.of Tryz.mixed Tryz.T_ok ?_
    (refine wBegin ?_; ((conv => arg 5; whnf); repeat (refine xS ?_; conv => arg 5; whnf)))
    refine wD (Ends.made (.inr rfl) (Ent.pack [1, 2, 3] (fillPack (fillN l l.length)) (by decide) rfl rfl (fun j i ch hi hj => ?_)) rfl (Nat.le_of_ble_eq_true rfl) rfl)
    rcases j with _ | _ | _ | j
    · cases hi; cases hj; exact ⟨_, rfl, ChLe.refl _ rfl⟩
    · cases hi; cases hj; exact ⟨_, rfl, ChLe.refl _ rfl⟩
    · cases hi; cases hj; exact ⟨_, rfl, ChLe.refl _ rfl⟩
    · cases hi
end Go.Proofs.YtmoohekgheoliaaGreatDoor
namespace Go.Proofs.YtmoohekgheoliaaGreatDoor
set_option maxRecDepth 100000
open Go.Sx
theorem Twin.look {S : USet} {R : RC} (h : Twin S R) : AlikeR S R := fun p => by
  obtain ⟨zs, hz⟩ := h
  exact ⟨hz.isAt p, hz.get p⟩
theorem Twin.lens {S : USet} {R : RC} (h : Twin S R) : R.P.length = S.coins.length ∧ R.P.length = R.C.length := by
  obtain ⟨zs, hz⟩ := h
  have h1 := hz.len
  have h2 := hz.perm.length_eq
  omega
theorem twin_fill (l : List LCoin) : ∀ n, Twin (fillN l n).S (fillN l n).R
  | 0 => Twin.empty
  | n + 1 => (twin_fill l n).add _ _
theorem Twin.okB {S : USet} {R : RC} (h : Twin S R) (p : Pt) (c : Coin) : R.okB p c = S.okB p c := by
  obtain ⟨zs, hz⟩ := h
  exact hz.okB p c
theorem Twin.add1 {S : USet} {R : RC} (h : Twin S R) {p : Pt} {c : Coin} (hok : S.okB p c = true) : Twin (S.add1 p c) (R.add1 p c) := by
  obtain ⟨zs, hz⟩ := h
  exact hz.add1 hok
theorem twin_outs (id : H8) (h : Int64) (base : Bool) : ∀ (l : List OutM) (S : USet) (R : RC) (i : Nat), Twin S R → Twin (outsGo id h base S i l).1 (routsGo id h base R i l).1 ∧ (outsGo id h base S i l).2 = (routsGo id h base R i l).2
  | [], S, R, i, ht => ⟨ht, rfl⟩
  | o :: l, S, R, i, ht => by
    rw [outsGo, routsGo, (ht.look (ptAt id i)).1, ht.okB]
    by_cases h1 : S.has (ptAt id i) = true
    · rw [if_pos h1, if_pos h1]; exact ⟨ht, rfl⟩
    · rw [if_neg h1, if_neg h1]
      by_cases h2 : S.okB (ptAt id i) ⟨o.to, o.amt, h, base⟩ = true
      · rw [if_pos h2, if_pos h2]
        exact twin_outs id h base l _ _ (i + 1) (ht.add1 h2)
      · rw [if_neg h2, if_neg h2]; exact ⟨ht, rfl⟩
theorem outsGo_len (id : H8) (h : Int64) (base : Bool) : ∀ (l : List OutM) (R : RC) (i : Nat), R.P.length = R.C.length → (routsGo id h base R i l).1.P.length ≤ R.P.length + l.length
  | [], R, i, _ => Nat.le_refl _
  | o :: l, R, i, hPC => by
    rw [routsGo]
    split
    · simp only [List.length_cons]; omega
    · split
      · have h1 := radd1_len hPC (ptAt id i) ⟨o.to, o.amt, h, base⟩
        have h2 := outsGo_len id h base l _ (i + 1) h1.2
        simp only [List.length_cons]
        omega
      · simp only [List.length_cons]; omega
theorem twin_spend : ∀ (l : List InM) (S : USet) (R : RC), Twin S R → Twin (spendAll S l) (rspendAll R l)
  | [], _, _, h => h
  | x :: l, S, R, h => twin_spend l (S.spend x.pt) (R.spend x.pt) (h.spend x.pt)
theorem twin_do {S : USet} {R : RC} (h : Twin S R) (t : TxM) (H : Int64) : Twin (doE S t H).1 (rdoE S R t H).1 ∧ (doE S t H).2 = (rdoE S R t H).2 := by
  obtain ⟨h1, h2⟩ := twin_outs (payID t) H false t.outs _ _ 0 (twin_spend t.ins S R h)
  rw [doE, rdoE]
  by_cases e1 : (payE S t H.toInt).2 = 0
  · rw [if_pos e1, if_pos e1, ← h2]
    by_cases e2 : (outsGo (payID t) H false (spendAll S t.ins) 0 t.outs).2 = 0
    · rw [if_pos e2, if_pos e2]; exact ⟨h1, rfl⟩
    · rw [if_neg e2, if_neg e2]; exact ⟨h1, rfl⟩
  · rw [if_neg e1, if_neg e1]; exact ⟨h, rfl⟩
theorem rdo_len {S : USet} {R : RC} (hPC : R.P.length = R.C.length) (t : TxM) (H : Int64) : (rdoE S R t H).1.P.length ≤ R.P.length + t.outs.length := by
  have h1 := rspendAll_len t.ins R hPC
  have h2 := outsGo_len (payID t) H false t.outs (rspendAll R t.ins) 0 h1.2
  rw [rdoE]
  split
  · split <;> (dsimp only; omega)
  · dsimp only; omega
theorem twin_do_len {S : USet} {R : RC} (h : Twin S R) (t : TxM) (H : Int64) : (doE S t H).1.coins.length ≤ S.coins.length + t.outs.length := by
  have h1 := (twin_do h t H).1.lens
  have h2 := h.lens
  have h3 := rdo_len (S := S) h2.2 t H
  omega
end Go.Proofs.YtmoohekgheoliaaGreatDoor
namespace Go.Proofs.YtmoohekgheoliaaGreatDoor
set_option maxRecDepth 100000
open Go.RowKit Go.Lib Go.Sort
theorem addr_add (b o j : Nat) : (⟨b, o, none⟩ : Addr).add j = ⟨b, o + j, none⟩ := by unfold Addr.add; split <;> simp_all
theorem run_loadU8 {P : Program} (w : World) (b : Nat) : ∀ (xs : List UInt8) (o : Nat) (acc : ByteArray), (∀ j x, xs[j]? = some x → w.cell? ⟨b, o + j, none⟩ = some (u8 x)) →
    (Extern.Bytes.loadBytes ⟨b, o, none⟩ xs.length acc).run P w = .ok ⟨acc.data ++ xs.toArray⟩ w
  | [], o, acc, _ => by simp [Extern.Bytes.loadBytes]
  | x :: l, o, acc, h => by
    have h0 : w.cell? ⟨b, o, none⟩ = some (u8 x) := by simpa using h 0 x rfl
    have ih := run_loadU8 (P := P) w b l (o + 1) (acc.push x) (fun j y hy => by
      have := h (j + 1) y (by simpa using hy)
      rw [← this]; congr 2; omega)
    have e : (⟨b, o, none⟩ : Addr).add 1 = ⟨b, o + 1, none⟩ := by simp [Addr.add]
    simp only [List.length_cons, Extern.Bytes.loadBytes, Sem.run_bind, run_load, h0, Result.andThen, u8, e]
    have e2 : (Int.toNat (x.toNat : Int)).toUInt8 = x := by simp
    rw [e2, ih]
    congr 1
    apply ByteArray.ext
    simp [ByteArray.push]
theorem run_compareU8 {P : Program} (w : World) (b1 b2 c1 c2 : Nat) (xs ys : List UInt8) (h1 : ∀ j x, xs[j]? = some x → w.cell? ⟨b1, j, none⟩ = some (u8 x)) (h2 : ∀ j x, ys[j]? = some x → w.cell? ⟨b2, j, none⟩ = some (u8 x)) :
    (Extern.BytealgCompare.compare #[.slice (some ⟨b1, 0, none⟩) xs.length c1, .slice (some ⟨b2, 0, none⟩) ys.length c2]).run P w = .ok (.int .i64 (compareBytes xs ys)) w := by
  change Sem.run P (do pure (goInt (Extern.BytealgCompare.cmp (← Extern.Bytes.bytesOf (.slice (some ⟨b1, 0, none⟩) xs.length c1)) (← Extern.Bytes.bytesOf (.slice (some ⟨b2, 0, none⟩) ys.length c2))))) w = _
  have e1 := run_loadU8 (P := P) w b1 xs 0 .empty (by simpa using h1)
  have e2 := run_loadU8 (P := P) w b2 ys 0 .empty (by simpa using h2)
  simp only [Extern.Bytes.bytesOf, Sem.run_bind, Sem.run_pure, e1, e2, Result.andThen]
  have e3 : ∀ l : List UInt8, ByteArray.empty.data ++ l.toArray = l.toArray := fun l => by show (#[] : Array UInt8) ++ _ = _; simp
  rw [cmp_eq, e3, e3]
  rfl
theorem bytesCompare_calls (xs ys : List UInt8) (n m b1 b2 c1 c2 : Nat) (w : World) (hn : xs.length = n) (hm : ys.length = m) (h1 : ∀ j x, xs[j]? = some x → w.cell? ⟨b1, j, none⟩ = some (u8 x)) (h2 : ∀ j x, ys[j]? = some x → w.cell? ⟨b2, j, none⟩ = some (u8 x)) :
    Calls Tryz.prog 141 #[.slice (some ⟨b1, 0, none⟩) n c1, .slice (some ⟨b2, 0, none⟩) m c2] w fun e w' => e = .returned (.int .i64 (compareBytes xs ys)) ∧ w' = w := by
  subst hn hm
  have hx : (callFunc 163 #[.slice (some ⟨b1, 0, none⟩) xs.length c1, .slice (some ⟨b2, 0, none⟩) ys.length c2]).run Tryz.prog w = .ok (.value (.int .i64 (compareBytes xs ys))) w := by
    rw [run_callFunc_extern Tryz.func163 (by kernel_rfl) (by kernel_rfl) (by kernel_rfl) (e := Extern.BytealgCompare.compare) (by kernel_rfl), run_compareU8 w b1 b2 c1 c2 xs ys h1 h2]
    rfl
  go_enter Tryz.func141, Tryz.ntmps141
  go_wp2
  go_ret
  exact ⟨rfl, rfl⟩
theorem h8_cell (h : H8) (w : World) (b : Nat) (hb : ∃ t, w.heap[b]? = some (.cells h.cells.toArray t (0, 0))) (j : Nat) (x : UInt8) (hj : h.l[j]? = some x) : w.cell? ⟨b, j, none⟩ = some (u8 x) := by
  obtain ⟨t, hb⟩ := hb
  have e : h.cells = h.l.map u8 := rfl
  simp [World.cell?, hb, e, hj]
theorem alloc_new (w : World) (o : Obj) : (w.alloc o).heap[w.heap.size]? = some o := by show (w.heap.push o)[w.heap.size]? = some o; simp
set_option maxHeartbeats 2000000 in
set_option maxRecDepth 100000 in
theorem hashLess_calls (a b : H8) (W : World) : Calls Tryz.prog 117 #[.agg a.cells.toArray, .agg b.cells.toArray] W fun e w' => e = .returned (.bool (decide (compareBytes a.l b.l < 0))) ∧ ∃ q os', w' = grow (W.drewN q) os' := by
  obtain ⟨W2, hW2⟩ : ∃ W2, (W.alloc (.cells a.cells.toArray 39)).alloc (.cells b.cells.toArray 39) = W2 := ⟨_, rfl⟩
  have g2 : W2 = grow W #[.cells a.cells.toArray 39, .cells b.cells.toArray 39] := by rw [← hW2, alloc_eq_grow, alloc_eq_grow, grow_grow]; rfl
  have s2 : W2.heap.size = W.heap.size + 2 := by rw [← hW2]; simp
  have k1 : W2.heap[W.heap.size]? = some (.cells a.cells.toArray 39 (0, 0)) := by rw [← hW2]; exact (Below.heap_alloc _ _ _ (by simp)).trans (alloc_new W _)
  have k2 : W2.heap[W.heap.size + 1]? = some (.cells b.cells.toArray 39 (0, 0)) := by rw [← hW2]; have := alloc_new (W.alloc (.cells a.cells.toArray 39)) (.cells b.cells.toArray 39); rwa [World.size_alloc] at this
  have hg : ∀ n os (k : Nat) o, W2.heap[k]? = some o → (grow (W2.drewN n) os).heap[k]? = some o := fun n os k o h => by
    have hk := (Array.getElem?_eq_some_iff.1 h).1
    show ((W2.heap ++ os)[k]?) = _
    rw [Array.getElem?_append_left hk, h]
  have hcon : ∀ n os, Calls Tryz.prog 141 #[.slice (some ⟨W.heap.size, 0, none⟩) 8 8, .slice (some ⟨W.heap.size + 1, 0, none⟩) 8 8] (grow (W2.drewN n) os) fun e w' => e = .returned (.int .i64 (compareBytes a.l b.l)) ∧ ∃ q os', w' = grow ((grow (W2.drewN n) os).drewN q) os' := fun n os =>
    (bytesCompare_calls a.l b.l 8 8 _ _ 8 8 _ rfl rfl (h8_cell a _ _ ⟨_, hg n os _ _ k1⟩) (h8_cell b _ _ ⟨_, hg n os _ _ k2⟩)).mono fun _ _ ⟨he, hw⟩ => ⟨he, 0, #[], by rw [hw, grow_empty]; rfl⟩
  have mixed := Tryz.mixed
  have e47 : ∀ args w, (callFunc 141 args).run Tryz.prog w = .ok (.enter 141 args) w := enters_of Tryz.func141 (by kernel_rfl) rfl
  clear hW2 k1 k2 hg s2
  generalize compareBytes a.l b.l = r at hcon ⊢
  go_enter Tryz.func117, Tryz.ntmps117
  go_wp2_with (fail)
  rw [alloc_eq_grow, alloc_eq_grow, grow_grow]
  change Code.wp _ _ _ _ (grow W #[.cells a.cells.toArray 39, .cells b.cells.toArray 39])
  rw [← g2]
  have g3 : ∃ os, W2 = grow W os := ⟨_, g2⟩
  clear g2
  go_quiet_grown (first | (go_at_fn 141; refine Calls.grown_of (hcon _ _)))
  go_wp2
  go_ret
  obtain ⟨os, rfl⟩ := g3
  exact ⟨rfl, nq, os ++ osq, by rw [← grow_grow]; rfl⟩
def ordI (p q : Pt) : Int := if compareBytes p.tx.l q.tx.l < 0 then -1 else if compareBytes q.tx.l p.tx.l < 0 then 1 else compareInt p.no.toInt q.no.toInt
def PtsAt (W : World) (b : Nat) (p q : Pt) (w : World) : Prop := (∃ n os, w = grow (W.drewN n) os) ∧ (∀ j v, p.cells[j]? = some v → w.cell? ⟨b, j, none⟩ = some v) ∧ (∀ j v, q.cells[j]? = some v → w.cell? ⟨b + 1, j, none⟩ = some v)
theorem cell_ltV {w : World} {a : Addr} {v : Value} (h : w.cell? a = some v) : a.block < w.heap.size := by
  unfold World.cell? at h
  split at h
  · rename_i e
    exact (Array.getElem?_eq_some_iff.1 e).1
  · cases h
theorem PtsAt.more {W : World} {b : Nat} {p q : Pt} {w : World} (h : PtsAt W b p q w) (n : Nat) (os : Array Obj) : PtsAt W b p q (grow (w.drewN n) os) := by
  obtain ⟨⟨m, os0, rfl⟩, h2, h3⟩ := h
  refine ⟨⟨m + n, os0 ++ os, ?_⟩, fun j v hj => cell_grown (cell_ltV (h2 j v hj)) (h2 j v hj) n os, fun j v hj => cell_grown (cell_ltV (h3 j v hj)) (h3 j v hj) n os⟩
  show grow (grow ((W.drewN m).drewN n) os0) os = _
  rw [grow_grow, World.drewN_drewN]
theorem PtsAt.start (W : World) (p q : Pt) : PtsAt W W.heap.size p q ((W.alloc (.cells p.cells.toArray 60)).alloc (.cells q.cells.toArray 60)) := by
  have k1 : ((W.alloc (.cells p.cells.toArray 60)).alloc (.cells q.cells.toArray 60)).heap[W.heap.size]? = some (.cells p.cells.toArray 60 (0, 0)) := (Below.heap_alloc _ _ _ (by simp)).trans (alloc_new W _)
  have k2 : ((W.alloc (.cells p.cells.toArray 60)).alloc (.cells q.cells.toArray 60)).heap[W.heap.size + 1]? = some (.cells q.cells.toArray 60 (0, 0)) := by
    have := alloc_new (W.alloc (.cells p.cells.toArray 60)) (.cells q.cells.toArray 60)
    rwa [World.size_alloc] at this
  refine ⟨⟨0, _, by rw [alloc_eq_grow, alloc_eq_grow, grow_grow]; rfl⟩, fun j v hj => ?_, fun j v hj => ?_⟩
  · simp only [World.cell?, k1]; simpa using hj
  · simp only [World.cell?, k2]; simpa using hj
theorem PtsAt.at {W : World} {b : Nat} {p q : Pt} {w : World} (h : PtsAt W b p q w) : w.cell? ⟨b, 0, none⟩ = some (u8 p.tx.b0) ∧ w.cell? ⟨b, 1, none⟩ = some (u8 p.tx.b1) ∧ w.cell? ⟨b, 2, none⟩ = some (u8 p.tx.b2) ∧ w.cell? ⟨b, 3, none⟩ = some (u8 p.tx.b3) ∧ w.cell? ⟨b, 4, none⟩ = some (u8 p.tx.b4) ∧ w.cell? ⟨b, 5, none⟩ = some (u8 p.tx.b5) ∧ w.cell? ⟨b, 6, none⟩ = some (u8 p.tx.b6) ∧ w.cell? ⟨b, 7, none⟩ = some (u8 p.tx.b7) ∧ w.cell? ⟨b, 8, none⟩ = some (i64 p.no) ∧ w.cell? ⟨b + 1, 0, none⟩ = some (u8 q.tx.b0) ∧ w.cell? ⟨b + 1, 1, none⟩ = some (u8 q.tx.b1) ∧ w.cell? ⟨b + 1, 2, none⟩ = some (u8 q.tx.b2) ∧ w.cell? ⟨b + 1, 3, none⟩ = some (u8 q.tx.b3) ∧ w.cell? ⟨b + 1, 4, none⟩ = some (u8 q.tx.b4) ∧ w.cell? ⟨b + 1, 5, none⟩ = some (u8 q.tx.b5) ∧ w.cell? ⟨b + 1, 6, none⟩ = some (u8 q.tx.b6) ∧ w.cell? ⟨b + 1, 7, none⟩ = some (u8 q.tx.b7) ∧ w.cell? ⟨b + 1, 8, none⟩ = some (i64 q.no) := ⟨h.2.1 0 _ rfl, h.2.1 1 _ rfl, h.2.1 2 _ rfl, h.2.1 3 _ rfl, h.2.1 4 _ rfl, h.2.1 5 _ rfl, h.2.1 6 _ rfl, h.2.1 7 _ rfl, h.2.1 8 _ rfl, h.2.2 0 _ rfl, h.2.2 1 _ rfl, h.2.2 2 _ rfl, h.2.2 3 _ rfl, h.2.2 4 _ rfl, h.2.2 5 _ rfl, h.2.2 6 _ rfl, h.2.2 7 _ rfl, h.2.2 8 _ rfl⟩
set_option maxHeartbeats 4000000 in
set_option maxRecDepth 100000 in
theorem order_calls (hcmp : ∀ (x y : Int) (w : World), Calls Tryz.prog 118 #[.int .i64 x, .int .i64 y] w fun e w' => e = .returned (.int .i64 (compareInt x y)) ∧ w' = w) (p q : Pt) (W : World) : Calls Tryz.prog 88 #[.agg p.cells.toArray, .agg q.cells.toArray] W fun e w' => e = .returned (.int .i64 (ordI p q)) ∧ ∃ q os', w' = grow (W.drewN q) os' := by
  have h1 : ∀ w, PtsAt W W.heap.size p q w → Calls Tryz.prog 117 #[.agg p.tx.cells.toArray, .agg q.tx.cells.toArray] w fun e w' => e = .returned (.bool (decide (compareBytes p.tx.l q.tx.l < 0))) ∧ PtsAt W W.heap.size p q w' :=
    fun w h => (hashLess_calls p.tx q.tx w).mono fun _ _ ⟨he, n, os, hw⟩ => ⟨he, hw ▸ h.more n os⟩
  have h2 : ∀ w, PtsAt W W.heap.size p q w → Calls Tryz.prog 117 #[.agg q.tx.cells.toArray, .agg p.tx.cells.toArray] w fun e w' => e = .returned (.bool (decide (compareBytes q.tx.l p.tx.l < 0))) ∧ PtsAt W W.heap.size p q w' :=
    fun w h => (hashLess_calls q.tx p.tx w).mono fun _ _ ⟨he, n, os, hw⟩ => ⟨he, hw ▸ h.more n os⟩
  have h3 := fun W => hcmp p.no.toInt q.no.toInt W
  have h0 := PtsAt.start W p q
  have hat : ∀ w, PtsAt W W.heap.size p q w → _ := fun w h => h.at
  have hend : ∀ w, PtsAt W W.heap.size p q w → ∃ n os, w = grow (W.drewN n) os := fun w h => h.1
  unfold ordI
  generalize hr1 : compareBytes p.tx.l q.tx.l = r1 at h1 ⊢
  generalize hr2 : compareBytes q.tx.l p.tx.l = r2 at h2 ⊢
  generalize compareInt p.no.toInt q.no.toInt = r3 at h3 ⊢
  clear hcmp hr1 hr2
  obtain ⟨⟨x0, x1, x2, x3, x4, x5, x6, x7⟩, xn⟩ := p
  obtain ⟨⟨y0, y1, y2, y3, y4, y5, y6, y7⟩, yn⟩ := q
  generalize PtsAt W W.heap.size _ _ = PA at *
  dsimp only [Pt.cells, H8.cells] at *
  go_enter Tryz.func88, Tryz.ntmps88
  go_wp2_with (first
    | (go_at_call 117; refine (h1 _ h0).mono ?_; clear h1; rintro e w1 ⟨rfl, hP1⟩; obtain ⟨c0, c1, c2, c3, c4, c5, c6, c7, c8, c9, c10, c11, c12, c13, c14, c15, c16, c17⟩ := hat _ hP1)
    | (go_at_call 117; refine (h2 _ hP1).mono ?_; clear h2; rintro e w2 ⟨rfl, hP2⟩; obtain ⟨d0, d1, d2, d3, d4, d5, d6, d7, d8, d9, d10, d11, d12, d13, d14, d15, d16, d17⟩ := hat _ hP2)
    | (go_at_call 118; refine (h3 _).mono ?_; clear h3; rintro e w' ⟨rfl, rfl⟩))
  · go_ret
    exact ⟨rfl, hend _ hP1⟩
  · go_ret
    exact ⟨rfl, hend _ hP2⟩
  · go_ret
    exact ⟨rfl, hend _ hP2⟩
end Go.Proofs.YtmoohekgheoliaaGreatDoor
