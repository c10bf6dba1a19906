/- The plain law behind UtxoPlays and UtxoBack: the program's set and the reference's coins tell the same, whatever is done, marked, undone. -/
import Derived.Test.YtfdmlpdhngmbiaaVh
import Derived.Test.YtfdmlpdhngmbiaaUm
namespace Go.Proofs.Ytfdmlpdhngmbiaa
open Go.Sx

/-- Both hold the coins zs, which stand in order. -/
structure TwinZ (S : USet) (R : RC) (zs : List (Pt × Coin)) : Prop where
  P : R.P = zs.map (·.1)
  C : R.C = zs.map (·.2)
  perm : zs.Perm S.coins
  srt : zs.Pairwise fun a b => ltPt a.1 b.1 = true
  inv : Inv S
  amt : ∀ x ∈ zs, 1 ≤ x.2.amt.toInt
  most : sumC zs ≤ 1125899906842624
def Twin (S : USet) (R : RC) : Prop := ∃ zs, TwinZ S R zs

theorem sumC_append (a b : List (Pt × Coin)) : sumC (a ++ b) = sumC a + sumC b := by
  induction a with
  | nil => simp [sumC]
  | cons x r ih => simp only [List.cons_append, sumC, ih]; omega
theorem sumC_pos {l : List (Pt × Coin)} (h : ∀ x ∈ l, 1 ≤ x.2.amt.toInt) : 0 ≤ sumC l := by
  induction l with
  | nil => simp [sumC]
  | cons x r ih =>
    have := h x (by simp)
    have := ih (fun y hy => h y (by simp [hy]))
    simp only [sumC]; omega

theorem ltPt_trans {a b c : Pt} (h1 : ltPt a b = true) (h2 : ltPt b c = true) : ltPt a c = true := ltPt_swo.trans a b c h1 h2
theorem ltPt_irr (a : Pt) : ltPt a a = false := ltPt_swo.irrefl a
theorem ltPt_asymm {a b : Pt} (h : ltPt a b = true) : ltPt b a = false := by
  cases h2 : ltPt b a with
  | false => rfl
  | true => have := ltPt_trans h h2; rw [ltPt_irr] at this; cases this

/-! ### where a point is, or would be -/
theorem posIn_split {p : Pt} : ∀ {zs : List (Pt × Coin)}, zs.Pairwise (fun a b => ltPt a.1 b.1 = true) → posIn p (zs.map (·.1)) ≤ zs.length ∧ (∀ x ∈ zs.take (posIn p (zs.map (·.1))), ltPt x.1 p = true) ∧ (∀ x ∈ zs.drop (posIn p (zs.map (·.1))), ltPt x.1 p = false)
  | [], _ => by simp [posIn]
  | z :: r, h => by
    rw [List.pairwise_cons] at h
    obtain ⟨h1, h2, h3⟩ := posIn_split (p := p) h.2
    simp only [List.map_cons, posIn]
    by_cases hz : ltPt z.1 p = true
    · rw [if_pos hz]
      refine ⟨by simp; omega, fun x hx => ?_, fun x hx => ?_⟩
      · rw [List.take_succ_cons] at hx
        rcases List.mem_cons.1 hx with rfl | hx
        · exact hz
        · exact h2 x hx
      · rw [List.drop_succ_cons] at hx
        exact h3 x hx
    · rw [if_neg hz]
      have hz' : ltPt z.1 p = false := by simpa using hz
      refine ⟨by simp, fun x hx => by simp at hx, fun x hx => ?_⟩
      rw [List.drop_zero] at hx
      rcases List.mem_cons.1 hx with rfl | hx
      · exact hz'
      · cases hy : ltPt x.1 p with
        | false => rfl
        | true => have := ltPt_trans (h.1 x hx) hy; rw [hz'] at this; cases this

section
variable {S : USet} {R : RC} {zs : List (Pt × Coin)}
theorem TwinZ.len (h : TwinZ S R zs) : R.P.length = zs.length ∧ R.C.length = zs.length := by rw [h.P, h.C]; simp
theorem TwinZ.nd (h : TwinZ S R zs) : keysND zs := by
  have := h.perm.map (fun x : Pt × Coin => x.1)
  exact this.nodup_iff.2 h.inv.nd
theorem TwinZ.points (h : TwinZ S R zs) : S.points = R.P := by
  rw [h.P]
  refine sorted_one ((sortPts_perm _).trans (h.perm.map _).symm) (sortPts_sorted _) ?_
  rw [List.pairwise_map]
  exact h.srt.imp fun {a b} hab => by rw [ltPt_asymm hab]; rfl
theorem TwinZ.at (h : TwinZ S R zs) {i : Nat} (hi : i < zs.length) : R.P.getD i default = (zs[i]).1 ∧ R.C.getD i default = (zs[i]).2 ∧ mget S.coins (zs[i]).1 = some (zs[i]).2 := by
  refine ⟨?_, ?_, mget_of_mem h.inv.nd (h.perm.mem_iff.1 (List.getElem_mem hi))⟩
  · rw [h.P]; simp [List.getD_eq_getElem?_getD, hi]
  · rw [h.C]; simp [List.getD_eq_getElem?_getD, hi]
theorem TwinZ.total (h : TwinZ S R zs) : S.total = sumC zs ∧ 0 ≤ sumC zs := by
  have h0 := sumC_pos h.amt
  have := h.most
  refine ⟨?_, h0⟩
  rw [h.inv.tot, ← sumC_perm h.perm]
  exact wrap_i64 (by omega) (by omega)
theorem TwinZ.sumN (h : TwinZ S R zs) : ∀ i, i ≤ zs.length → R.sumN i = IntKind.i64.wrap (sumC (zs.take i))
  | 0, _ => by simp [RC.sumN, sumC]; rfl
  | i + 1, hi => by
    have hil : i < zs.length := by omega
    rw [RC.sumN, h.sumN i (by omega), wrap_add, (h.at hil).2.1, List.take_succ_eq_append_getElem hil, sumC_append]
    simp [sumC]
theorem TwinZ.sum (h : TwinZ S R zs) : R.sumN R.C.length = S.total := by
  rw [h.len.2, h.sumN _ (Nat.le_refl _), List.take_length, h.inv.tot, sumC_perm h.perm]

theorem TwinZ.has_iff (h : TwinZ S R zs) (p : Pt) : S.has p = true ↔ p ∈ zs.map (·.1) := by
  rw [← points_mem, h.points, h.P]
theorem TwinZ.pos (h : TwinZ S R zs) (p : Pt) : R.pos p = posIn p (zs.map (·.1)) := by rw [RC.pos, h.P]
theorem TwinZ.isAt_iff (h : TwinZ S R zs) (p : Pt) : R.isAt p = true ↔ p ∈ zs.map (·.1) := by
  obtain ⟨h1, h2, h3⟩ := posIn_split (p := p) h.srt
  have hp := h.pos p
  unfold RC.isAt
  simp only [Bool.and_eq_true, decide_eq_true_eq, hp, h.len.1]
  constructor
  · rintro ⟨hl, he⟩
    rw [(h.at hl).1] at he
    exact List.mem_map.2 ⟨_, List.getElem_mem hl, he⟩
  · intro hm
    obtain ⟨x, hx, rfl⟩ := List.mem_map.1 hm
    have hx' : x ∈ zs.drop (posIn x.1 (zs.map (·.1))) := by
      rw [← List.take_append_drop (posIn x.1 (zs.map (·.1))) zs] at hx
      rcases List.mem_append.1 hx with hx | hx
      · have := h2 x hx; rw [ltPt_irr] at this; cases this
      · exact hx
    have hl : posIn x.1 (zs.map (·.1)) < zs.length := by
      have := List.length_pos_of_mem hx'
      rw [List.length_drop] at this; omega
    refine ⟨hl, ?_⟩
    rw [(h.at hl).1]
    have hd := List.drop_eq_getElem_cons hl
    rw [hd] at hx'
    rcases List.mem_cons.1 hx' with e | hx'
    · rw [← e]
    · have hs := h.srt.drop (i := posIn x.1 (zs.map (·.1)))
      rw [hd, List.pairwise_cons] at hs
      have h4 := hs.1 x hx'
      have h5 := h3 _ (by rw [hd]; exact List.mem_cons_self ..)
      rw [h5] at h4; cases h4
theorem TwinZ.isAt (h : TwinZ S R zs) (p : Pt) : R.isAt p = S.has p := by
  rw [Bool.eq_iff_iff, h.isAt_iff, h.has_iff]

theorem TwinZ.okB (h : TwinZ S R zs) (p : Pt) (c : Coin) : R.okB p c = S.okB p c := by
  have ht := h.total
  have hm := h.most
  rw [Bool.eq_iff_iff]
  simp only [RC.okB, USet.okB, h.isAt, h.sum, bothB, mayB, Bool.and_eq_true, Bool.not_eq_true', decide_eq_false_iff_not, decide_eq_true_eq, ht.1]
  have hc := c.amt.toInt_lt
  by_cases ha : 1 ≤ c.amt.toInt ∧ c.amt.toInt ≤ 1125899906842624
  · rw [wrap_i64 (n := 1125899906842624 - c.amt.toInt) (by omega) (by omega), wrap_i64 (n := sumC zs + c.amt.toInt) (by omega) (by omega)]
    constructor
    · rintro ⟨⟨⟨⟨⟨a1, a2⟩, a3⟩, a4⟩, a5⟩, a6⟩; exact ⟨⟨⟨⟨by omega, by omega⟩, by omega⟩, a1⟩, ⟨⟨⟨by omega, by omega⟩, ⟨by omega, by omega⟩⟩, ⟨by omega, by omega⟩⟩⟩
    · rintro ⟨⟨⟨⟨a1, a2⟩, a3⟩, a4⟩, ⟨⟨⟨a5, a6⟩, ⟨a7, a8⟩⟩, ⟨a9, a10⟩⟩⟩; exact ⟨⟨⟨⟨⟨a4, by omega⟩, by omega⟩, by omega⟩, by omega⟩, by omega⟩
  · constructor
    · rintro ⟨⟨⟨⟨⟨a1, a2⟩, a3⟩, a4⟩, a5⟩, a6⟩; omega
    · rintro ⟨⟨⟨⟨a1, a2⟩, a3⟩, a4⟩, ⟨⟨⟨a5, a6⟩, ⟨a7, a8⟩⟩, ⟨a9, a10⟩⟩⟩; omega

theorem TwinZ.get (h : TwinZ S R zs) (p : Pt) : R.get p = S.get p := by
  unfold RC.get
  by_cases hp : R.isAt p = true
  · rw [if_pos hp]
    have hp' := hp
    simp only [RC.isAt, Bool.and_eq_true, decide_eq_true_eq] at hp'
    have hl : R.pos p < zs.length := by rw [← h.len.1]; exact hp'.1
    have ha := h.at hl
    rw [hp'.2] at ha
    have h2 := ha.2.2
    rw [← ha.1] at h2
    unfold USet.get
    rw [h2, ha.2.1]
    rfl
  · rw [if_neg hp]
    rw [h.isAt] at hp
    unfold USet.has at hp
    unfold USet.get
    cases hm : mget S.coins p with
    | none => rfl
    | some v => rw [hm] at hp; exact absurd rfl hp

theorem TwinZ.add1 (h : TwinZ S R zs) {p : Pt} {c : Coin} (hok : S.okB p c = true) : Twin (S.add1 p c) (R.add1 p c) := by
  obtain ⟨h1, h2, h3⟩ := posIn_split (p := p) h.srt
  have hhas := okB_has hok
  have hnot : p ∉ zs.map (·.1) := fun hm => by rw [(h.has_iff p).2 hm] at hhas; cases hhas
  have hokR := hok
  rw [← h.okB] at hokR
  simp only [RC.okB, h.sum, Bool.and_eq_true, Bool.not_eq_true', decide_eq_false_iff_not, h.total.1] at hokR
  obtain ⟨⟨⟨⟨⟨_, _⟩, _⟩, a4⟩, a5⟩, a6⟩ := hokR
  have h0 := h.total.2
  have hm := h.most
  rw [wrap_i64 (by omega) (by omega)] at a6
  have hzp : (zs.take (R.pos p) ++ (p, c) :: zs.drop (R.pos p)).Perm ((p, c) :: zs) := by
    refine List.perm_middle.trans ?_
    rw [List.take_append_drop]
  have hinv : Inv (S.add1 p c) := by
    have := h.inv.add p c
    unfold USet.add at this
    rwa [if_pos hok] at this
  refine ⟨zs.take (R.pos p) ++ (p, c) :: zs.drop (R.pos p), ?_, ?_, ?_, ?_, hinv, ?_, ?_⟩
  · simp only [RC.add1, h.P, List.map_append, List.map_cons, List.map_take, List.map_drop]
  · simp only [RC.add1, h.C, List.map_append, List.map_cons, List.map_take, List.map_drop]
  · have hc : (S.add1 p c).coins = S.coins ++ [(p, c)] := by
      simp only [USet.add1, USet.put]
      exact mput_none (mget_key hhas)
    rw [hc]
    exact (hzp.trans (h.perm.cons _)).trans (List.perm_append_singleton _ _).symm
  · rw [h.pos]
    have hsplit := h.srt
    rw [← List.take_append_drop (posIn p (zs.map (·.1))) zs, List.pairwise_append] at hsplit
    obtain ⟨s1, s2, s3⟩ := hsplit
    rw [List.pairwise_append]
    refine ⟨s1, ?_, fun x hx y hy => ?_⟩
    · rw [List.pairwise_cons]
      refine ⟨fun y hy => ?_, s2⟩
      have hy1 := h3 y hy
      have hne : y.1 ≠ p := fun e => hnot (List.mem_map.2 ⟨y, List.mem_of_mem_drop hy, e⟩)
      show ltPt p y.1 = true
      cases hl : ltPt p y.1 with
      | true => rfl
      | false => exact absurd (ltPt_total _ _ hl hy1).symm hne
    · rcases List.mem_cons.1 hy with rfl | hy
      · exact h2 x hx
      · exact s3 x hx y hy
  · intro x hx
    rcases List.mem_cons.1 (hzp.mem_iff.1 hx) with rfl | hx
    · show 1 ≤ c.amt.toInt; omega
    · exact h.amt x hx
  · rw [sumC_perm hzp]
    simp only [sumC]
    omega

theorem TwinZ.spend1 (h : TwinZ S R zs) {p : Pt} (hok : S.has p = true) : Twin (S.spend1 p) (R.spend1 p) := by
  have hat : R.isAt p = true := by rw [h.isAt]; exact hok
  simp only [RC.isAt, Bool.and_eq_true, decide_eq_true_eq] at hat
  have hl : R.pos p < zs.length := by rw [← h.len.1]; exact hat.1
  have ha := h.at hl
  rw [hat.2] at ha
  have hsplit : zs = zs.take (R.pos p) ++ zs[R.pos p] :: zs.drop (R.pos p + 1) := by
    rw [← List.drop_eq_getElem_cons hl, List.take_append_drop]
  have hsub : (zs.take (R.pos p) ++ zs.drop (R.pos p + 1)).Sublist zs := by
    conv => rhs; rw [hsplit]
    exact (List.Sublist.refl _).append (List.sublist_cons_self _ _)
  have hinv : Inv (S.spend1 p) := by
    have := h.inv.spend p
    unfold USet.spend at this
    rwa [if_pos hok] at this
  have hpm : (zs[R.pos p] :: (zs.take (R.pos p) ++ zs.drop (R.pos p + 1))).Perm zs := by
    conv => rhs; rw [hsplit]
    exact List.perm_middle.symm
  have hv : zs[R.pos p] = (p, S.get p) := by
    have h1 := ha.1
    have h2 := ha.2.2
    rw [← h1] at h2
    have : S.get p = (zs[R.pos p]).2 := by unfold USet.get; rw [h2]; rfl
    exact Prod.ext h1.symm this.symm
  have hsum := sumC_perm hpm
  refine ⟨zs.take (R.pos p) ++ zs.drop (R.pos p + 1), ?_, ?_, ?_, h.srt.sublist hsub, hinv, fun x hx => h.amt x (hsub.mem hx), ?_⟩
  · simp only [RC.spend1, h.P, List.map_append, List.map_take, List.map_drop]
  · simp only [RC.spend1, h.C, List.map_append, List.map_take, List.map_drop]
  · have hd := mdel_perm (has_get hok)
    have hc : (S.spend1 p).coins = mdel S.coins p := rfl
    rw [hc]
    rw [hv] at hpm
    exact List.Perm.cons_inv ((hpm.trans h.perm).trans hd.symm)
  · have hm := h.most
    have := h.amt _ (List.getElem_mem hl)
    simp only [sumC] at hsum
    omega
end

theorem Twin.alike {S S' : USet} {R : RC} (h : Twin S R) (hA : Alike S' S) : Twin S' R := by
  obtain ⟨zs, h⟩ := h
  exact ⟨zs, h.P, h.C, h.perm.trans hA.coins.symm, h.srt, ⟨hA.nd, by rw [hA.total, h.inv.tot, sumC_perm hA.coins]⟩, h.amt, h.most⟩
theorem Twin.empty : Twin USet.empty RC.empty := ⟨[], rfl, rfl, List.Perm.refl _, List.Pairwise.nil, Inv.empty, fun _ h => (by cases h), by decide⟩
theorem Twin.add {S : USet} {R : RC} (h : Twin S R) (p : Pt) (c : Coin) : Twin (S.add p c) (R.add p c) := by
  obtain ⟨zs, h⟩ := h
  unfold USet.add RC.add
  rw [h.okB]
  split
  · rename_i hok; exact h.add1 hok
  · exact ⟨zs, h⟩
theorem Twin.spend {S : USet} {R : RC} (h : Twin S R) (p : Pt) : Twin (S.spend p) (R.spend p) := by
  obtain ⟨zs, h⟩ := h
  unfold USet.spend RC.spend
  rw [h.isAt]
  split
  · rename_i hok; exact h.spend1 hok
  · exact ⟨zs, h⟩

/-! ### what was, behind each step -/
theorem backN_add (a : Nat) : ∀ (b : Nat) (S : USet), USet.backN (b + a) S = USet.backN a (USet.backN b S)
  | 0, S => by simp [USet.backN]
  | b + 1, S => by
    rw [show b + 1 + a = (b + a) + 1 by omega, USet.backN, USet.backN, backN_add a b]

theorem pop_add1 {S : USet} (hi : Inv S) {p : Pt} {c : Coin} (hok : S.okB p c = true) : (S.add1 p c).pop = S := by
  have hlen : (S.add1 p c).steps.length = S.steps.length + 1 := by simp [USet.add1]
  have hr := wrap_range (sumC S.coins)
  rw [← hi.tot] at hr
  unfold USet.pop
  rw [hlen]
  simp only [USet.add1, Nat.add_sub_cancel, List.getD_eq_getElem?_getD, List.dropLast_concat]
  simp only [List.getElem?_concat_length, Option.getD_some, if_true, USet.take, USet.put, mdel_mput (mget_key (okB_has hok)), wrap_back hr.1 hr.2]
theorem pop_spend1 {S : USet} (hi : Inv S) {p : Pt} (hok : S.has p = true) : Alike (S.spend1 p).pop S := by
  have hlen : (S.spend1 p).steps.length = S.steps.length + 1 := by simp [USet.spend1]
  have hr := wrap_range (sumC S.coins)
  rw [← hi.tot] at hr
  unfold USet.pop
  rw [hlen]
  simp only [USet.spend1, Nat.add_sub_cancel, List.getD_eq_getElem?_getD, List.dropLast_concat]
  simp only [List.getElem?_concat_length, Option.getD_some, Bool.false_eq_true, if_false, USet.take, USet.put, wrap_forth hr.1 hr.2]
  exact ⟨mput_mdel hi.nd (has_get hok), nd_mput (nd_mdel hi.nd), rfl, rfl⟩

/-- hist: the reference's coins behind k steps, for each k. -/
structure Hist (S : USet) (hist : List RC) : Prop where
  len : hist.length = S.steps.length + 1
  twin : ∀ k, k ≤ S.steps.length → Twin (USet.backN (S.steps.length - k) S) (hist.getD k RC.empty)
section
variable {S : USet} {hist : List RC}
theorem Hist.now (h : Hist S hist) : Twin S (hist.getD S.steps.length RC.empty) := by
  have := h.twin S.steps.length (Nat.le_refl _)
  rwa [Nat.sub_self] at this
theorem Hist.inv (h : Hist S hist) : Inv S := by obtain ⟨zs, hz⟩ := h.now; exact hz.inv
theorem getD_snoc_lt (l : List RC) (x : RC) {k : Nat} (hk : k < l.length) : (l ++ [x]).getD k RC.empty = l.getD k RC.empty := by
  simp [List.getD_eq_getElem?_getD, List.getElem?_append_left hk]
theorem getD_snoc_eq (l : List RC) (x : RC) : (l ++ [x]).getD l.length RC.empty = x := by simp [List.getD_eq_getElem?_getD]
theorem Hist.add1 (h : Hist S hist) {p : Pt} {c : Coin} (hok : S.okB p c = true) : Hist (S.add1 p c) (hist ++ [(hist.getD S.steps.length RC.empty).add1 p c]) := by
  have hlen : (S.add1 p c).steps.length = S.steps.length + 1 := by simp [USet.add1]
  refine ⟨by rw [hlen, List.length_append, h.len]; rfl, fun k hk => ?_⟩
  rw [hlen] at hk ⊢
  by_cases e : k = S.steps.length + 1
  · subst e
    have : S.steps.length + 1 = hist.length := h.len.symm
    rw [Nat.sub_self]
    conv => arg 2; rw [this, getD_snoc_eq]
    obtain ⟨zs, hz⟩ := h.now
    exact hz.add1 hok
  · rw [getD_snoc_lt _ _ (by rw [h.len]; omega), show S.steps.length + 1 - k = (S.steps.length - k) + 1 by omega, USet.backN, pop_add1 h.inv hok]
    exact h.twin k (by omega)
theorem Hist.spend1 (h : Hist S hist) {p : Pt} (hok : S.has p = true) : Hist (S.spend1 p) (hist ++ [(hist.getD S.steps.length RC.empty).spend1 p]) := by
  have hlen : (S.spend1 p).steps.length = S.steps.length + 1 := by simp [USet.spend1]
  refine ⟨by rw [hlen, List.length_append, h.len]; rfl, fun k hk => ?_⟩
  rw [hlen] at hk ⊢
  by_cases e : k = S.steps.length + 1
  · subst e
    have : S.steps.length + 1 = hist.length := h.len.symm
    rw [Nat.sub_self]
    conv => arg 2; rw [this, getD_snoc_eq]
    obtain ⟨zs, hz⟩ := h.now
    exact hz.spend1 hok
  · rw [getD_snoc_lt _ _ (by rw [h.len]; omega), show S.steps.length + 1 - k = (S.steps.length - k) + 1 by omega, USet.backN]
    exact (h.twin k (by omega)).alike (Alike.backN _ (pop_spend1 h.inv hok))
theorem Hist.back (h : Hist S hist) {n : Nat} (hn : n ≤ S.steps.length) : Hist (S.back n) (hist.take (n + 1)) := by
  have hl := S.back_len hn
  refine ⟨by rw [hl, List.length_take, h.len]; omega, fun k hk => ?_⟩
  rw [hl] at hk ⊢
  have e : (hist.take (n + 1)).getD k RC.empty = hist.getD k RC.empty := by
    simp only [List.getD_eq_getElem?_getD]
    rw [List.getElem?_take_of_lt (by omega)]
  rw [e, USet.back, if_pos hn, ← backN_add, show S.steps.length - n + (n - k) = S.steps.length - k by omega]
  exact h.twin k (by omega)
theorem Hist.empty : Hist USet.empty [RC.empty] := ⟨rfl, fun k hk => by
  have : k = 0 := by simpa [USet.empty] using hk
  subst this
  exact Twin.empty⟩

/-- What an Add, a Spend leaves. -/
def histAdd (S : USet) (hist : List RC) (p : Pt) (c : Coin) : List RC := if S.okB p c = true then hist ++ [(hist.getD S.steps.length RC.empty).add1 p c] else hist
def histSpend (S : USet) (hist : List RC) (p : Pt) : List RC := if S.has p = true then hist ++ [(hist.getD S.steps.length RC.empty).spend1 p] else hist
theorem Hist.add (h : Hist S hist) (p : Pt) (c : Coin) : Hist (S.add p c) (histAdd S hist p c) := by
  unfold USet.add histAdd
  split
  · rename_i hok; exact h.add1 hok
  · exact h
theorem Hist.spend (h : Hist S hist) (p : Pt) : Hist (S.spend p) (histSpend S hist p) := by
  unfold USet.spend histSpend
  split
  · rename_i hok; exact h.spend1 hok
  · exact h
end
end Go.Proofs.Ytfdmlpdhngmbiaa
