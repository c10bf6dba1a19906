/- Parts Pd Pn Pq Ye Yl Hp Hq. -/
import Derived.Test.YtnpkdoggfnlapaaGreatDoorG20
import Derived.Test.YtnpkdoggfnlapaaGreatDoorG18
import Derived.Test.YtnpkdoggfnlapaaGreatDoorG19
import Derived.Test.YtnpkdoggfnlapaaGreatDoorG12
import Derived.Test.YtnpkdoggfnlapaaGreatDoorG16
set_option linter.unusedSimpArgs false
set_option linter.unusedVariables false
namespace Go.Proofs.YtnpkdoggfnlapaaGreatDoor
set_option maxRecDepth 100000
open Go.Sx
def keysND (l : List (Pt × Coin)) : Prop := (l.map (·.1)).Nodup
theorem mput_perm : ∀ {l : List (Pt × Coin)} {k : Pt} {v : Coin}, keysND l → (mput l k v).Perm ((k, v) :: l.filter (fun x => x.1 ≠ k))
  | [], k, v, _ => List.Perm.refl _
  | x :: r, k, v, h => by
    simp only [keysND, List.map_cons, List.nodup_cons] at h
    simp only [mput]
    by_cases hk : x.1 = k
    · have hr : r.filter (fun x => x.1 ≠ k) = r := by
        rw [List.filter_eq_self]
        intro y hy
        have : y.1 ≠ k := fun e => h.1 (by rw [hk, ← e]; exact List.mem_map.2 ⟨y, hy, rfl⟩)
        simpa using this
      rw [if_pos hk, List.filter_cons_of_neg (by simpa using hk), hr]
    · rw [if_neg hk, List.filter_cons_of_pos (by simpa using hk)]
      exact ((mput_perm h.2).cons x).trans (List.Perm.swap _ _ _)
theorem nd_filter {l : List (Pt × Coin)} {k : Pt} (h : keysND l) : keysND (l.filter (fun x => x.1 ≠ k)) := by
  have := (List.filter_sublist (p := fun x : Pt × Coin => decide (x.1 ≠ k)) (l := l)).map (·.1)
  exact h.sublist this
theorem nd_mput {l : List (Pt × Coin)} {k : Pt} {v : Coin} (h : keysND l) : keysND (mput l k v) := by
  have hp := (mput_perm (k := k) (v := v) h).map (·.1)
  unfold keysND
  rw [hp.nodup_iff, List.map_cons, List.nodup_cons]
  refine ⟨fun hm => ?_, nd_filter h⟩
  obtain ⟨y, hy, he⟩ := List.mem_map.1 hm
  have := (List.mem_filter.1 hy).2
  simp [he] at this
theorem mget_key : ∀ {l : List (Pt × Coin)} {k : Pt}, (mget l k).isSome = false → ∀ x ∈ l, x.1 ≠ k
  | [], k, _, x, hx => by cases hx
  | y :: r, k, h, x, hx => by
    simp only [mget] at h
    by_cases hk : y.1 = k
    · rw [if_pos hk] at h; cases h
    · rw [if_neg hk] at h
      rcases List.mem_cons.1 hx with rfl | hx
      · exact hk
      · exact mget_key h x hx
theorem wrap_add (a b : Int) : IntKind.i64.wrap (IntKind.i64.wrap a + b) = IntKind.i64.wrap (a + b) := by
  have e1 : IntKind.i64.bits = 64 := rfl
  have e2 : IntKind.i64.signed = true := rfl
  simp only [IntKind.wrap, e1, e2, Bool.true_and]
  split <;> split <;> split <;> rename_i h h' h'' <;> simp only [ge_iff_le, decide_eq_true_eq] at h h' h'' <;> omega
def sumC : List (Pt × Coin) → Int
  | [] => 0
  | x :: r => x.2.amt.toInt + sumC r
theorem sumC_perm {l l' : List (Pt × Coin)} (h : l.Perm l') : sumC l = sumC l' := by
  induction h with
  | nil => rfl
  | cons x _ ih => simp only [sumC, ih]
  | swap x y l => simp only [sumC]; omega
  | trans _ _ h1 h2 => rw [h1, h2]
theorem mget_of_mem : ∀ {l : List (Pt × Coin)} {k : Pt} {v : Coin}, keysND l → (k, v) ∈ l → mget l k = some v
  | x :: r, k, v, hn, h => by
    simp only [keysND, List.map_cons, List.nodup_cons] at hn
    simp only [mget]
    rcases List.mem_cons.1 h with rfl | h
    · simp
    · have : x.1 ≠ k := fun e => hn.1 (e ▸ List.mem_map.2 ⟨_, h, rfl⟩)
      rw [if_neg this]
      exact mget_of_mem hn.2 h
structure Inv (S : USet) : Prop where
  nd : keysND S.coins
  tot : S.total = IntKind.i64.wrap (sumC S.coins)
theorem Inv.empty : Inv USet.empty := ⟨List.nodup_nil, rfl⟩
theorem okB_has {S : USet} {p : Pt} {c : Coin} (h : S.okB p c = true) : S.has p = false := by
  simp only [USet.okB, Bool.and_eq_true, Bool.not_eq_true'] at h
  exact h.1.2
theorem Inv.add {S : USet} (h : Inv S) (p : Pt) (c : Coin) : Inv (S.add p c) := by
  unfold USet.add
  split
  · rename_i hok
    have hh := mget_key (okB_has hok)
    refine ⟨nd_mput h.nd, ?_⟩
    simp only [USet.add1, USet.put, h.tot, wrap_add]
    congr 1
    have hf : S.coins.filter (fun x => x.1 ≠ p) = S.coins := by
      rw [List.filter_eq_self]
      intro y hy
      simpa using hh y hy
    have := sumC_perm (mput_perm (k := p) (v := c) h.nd)
    rw [hf] at this
    rw [this]
    simp only [sumC]
    omega
  · exact h
section
variable {S : USet} {R : RC} {zs : List (Pt × Coin)}
structure TwinZ (S : USet) (R : RC) (zs : List (Pt × Coin)) : Prop where
  P : R.P = zs.map (·.1)
  C : R.C = zs.map (·.2)
  perm : zs.Perm S.coins
  srt : zs.Pairwise fun a b => ltPt a.1 b.1 = true
  inv : Inv S
  amt : ∀ x ∈ zs, 1 ≤ x.2.amt.toInt
  most : sumC zs ≤ 1125899906842624
def Twin (S : USet) (R : RC) : Prop := ∃ zs, TwinZ S R zs
theorem sumC_append (a b : List (Pt × Coin)) : sumC (a ++ b) = sumC a + sumC b := by
  induction a with
  | nil => simp [sumC]
  | cons x r ih => simp only [List.cons_append, sumC, ih]; omega
theorem sumC_pos {l : List (Pt × Coin)} (h : ∀ x ∈ l, 1 ≤ x.2.amt.toInt) : 0 ≤ sumC l := by
  induction l with
  | nil => simp [sumC]
  | cons x r ih =>
    have := h x (by simp)
    have := ih (fun y hy => h y (by simp [hy]))
    simp only [sumC]; omega
theorem ltPt_trans {a b c : Pt} (h1 : ltPt a b = true) (h2 : ltPt b c = true) : ltPt a c = true := ltPt_swo.trans a b c h1 h2
theorem ltPt_irr (a : Pt) : ltPt a a = false := ltPt_swo.irrefl a
theorem posIn_split {p : Pt} : ∀ {zs : List (Pt × Coin)}, zs.Pairwise (fun a b => ltPt a.1 b.1 = true) → posIn p (zs.map (·.1)) ≤ zs.length ∧ (∀ x ∈ zs.take (posIn p (zs.map (·.1))), ltPt x.1 p = true) ∧ (∀ x ∈ zs.drop (posIn p (zs.map (·.1))), ltPt x.1 p = false)
  | [], _ => by simp [posIn]
  | z :: r, h => by
    rw [List.pairwise_cons] at h
    obtain ⟨h1, h2, h3⟩ := posIn_split (p := p) h.2
    simp only [List.map_cons, posIn]
    by_cases hz : ltPt z.1 p = true
    · rw [if_pos hz]
      refine ⟨by simp; omega, fun x hx => ?_, fun x hx => ?_⟩
      · rw [List.take_succ_cons] at hx
        rcases List.mem_cons.1 hx with rfl | hx
        · exact hz
        · exact h2 x hx
      · rw [List.drop_succ_cons] at hx
        exact h3 x hx
    · rw [if_neg hz]
      have hz' : ltPt z.1 p = false := by simpa using hz
      refine ⟨by simp, fun x hx => by simp at hx, fun x hx => ?_⟩
      rw [List.drop_zero] at hx
      rcases List.mem_cons.1 hx with rfl | hx
      · exact hz'
      · cases hy : ltPt x.1 p with
        | false => rfl
        | true => have := ltPt_trans (h.1 x hx) hy; rw [hz'] at this; cases this
theorem TwinZ.len (h : TwinZ S R zs) : R.P.length = zs.length ∧ R.C.length = zs.length := by rw [h.P, h.C]; simp
theorem TwinZ.nd (h : TwinZ S R zs) : keysND zs := by
  have := h.perm.map (fun x : Pt × Coin => x.1)
  exact this.nodup_iff.2 h.inv.nd
theorem TwinZ.at (h : TwinZ S R zs) {i : Nat} (hi : i < zs.length) : R.P.getD i default = (zs[i]).1 ∧ R.C.getD i default = (zs[i]).2 ∧ mget S.coins (zs[i]).1 = some (zs[i]).2 := by
  refine ⟨?_, ?_, mget_of_mem h.inv.nd (h.perm.mem_iff.1 (List.getElem_mem hi))⟩
  · rw [h.P]; simp [List.getD_eq_getElem?_getD, hi]
  · rw [h.C]; simp [List.getD_eq_getElem?_getD, hi]
theorem TwinZ.total (h : TwinZ S R zs) : S.total = sumC zs ∧ 0 ≤ sumC zs := by
  have h0 := sumC_pos h.amt
  have := h.most
  refine ⟨?_, h0⟩
  rw [h.inv.tot, ← sumC_perm h.perm]
  exact wrap_i64 (by omega) (by omega)
theorem TwinZ.sumN (h : TwinZ S R zs) : ∀ i, i ≤ zs.length → R.sumN i = IntKind.i64.wrap (sumC (zs.take i))
  | 0, _ => by simp [RC.sumN, sumC]; rfl
  | i + 1, hi => by
    have hil : i < zs.length := by omega
    rw [RC.sumN, h.sumN i (by omega), wrap_add, (h.at hil).2.1, List.take_succ_eq_append_getElem hil, sumC_append]
    simp [sumC]
theorem TwinZ.sum (h : TwinZ S R zs) : R.sumN R.C.length = S.total := by
  rw [h.len.2, h.sumN _ (Nat.le_refl _), List.take_length, h.inv.tot, sumC_perm h.perm]
theorem mget_some_iff : ∀ {l : List (Pt × Coin)} {k : Pt}, (mget l k).isSome = true ↔ k ∈ l.map (·.1)
  | [], _ => by simp [mget]
  | x :: r, k => by
    rw [mget]
    by_cases e : x.1 = k
    · rw [if_pos e]; simp [e]
    · rw [if_neg e, mget_some_iff, List.map_cons, List.mem_cons]
      exact ⟨Or.inr, fun h => h.resolve_left fun h => e h.symm⟩
theorem TwinZ.has_iff (h : TwinZ S R zs) (p : Pt) : S.has p = true ↔ p ∈ zs.map (·.1) := by
  rw [USet.has, mget_some_iff]
  exact (h.perm.map (·.1)).mem_iff.symm
theorem TwinZ.pos (h : TwinZ S R zs) (p : Pt) : R.pos p = posIn p (zs.map (·.1)) := by rw [RC.pos, h.P]
theorem TwinZ.isAt_iff (h : TwinZ S R zs) (p : Pt) : R.isAt p = true ↔ p ∈ zs.map (·.1) := by
  obtain ⟨h1, h2, h3⟩ := posIn_split (p := p) h.srt
  have hp := h.pos p
  unfold RC.isAt
  simp only [Bool.and_eq_true, decide_eq_true_eq, hp, h.len.1]
  constructor
  · rintro ⟨hl, he⟩
    rw [(h.at hl).1] at he
    exact List.mem_map.2 ⟨_, List.getElem_mem hl, he⟩
  · intro hm
    obtain ⟨x, hx, rfl⟩ := List.mem_map.1 hm
    have hx' : x ∈ zs.drop (posIn x.1 (zs.map (·.1))) := by
      rw [← List.take_append_drop (posIn x.1 (zs.map (·.1))) zs] at hx
      rcases List.mem_append.1 hx with hx | hx
      · have := h2 x hx; rw [ltPt_irr] at this; cases this
      · exact hx
    have hl : posIn x.1 (zs.map (·.1)) < zs.length := by
      have := List.length_pos_of_mem hx'
      rw [List.length_drop] at this; omega
    refine ⟨hl, ?_⟩
    rw [(h.at hl).1]
    have hd := List.drop_eq_getElem_cons hl
    rw [hd] at hx'
    rcases List.mem_cons.1 hx' with e | hx'
    · rw [← e]
    · have hs := h.srt.drop (i := posIn x.1 (zs.map (·.1)))
      rw [hd, List.pairwise_cons] at hs
      have h4 := hs.1 x hx'
      have h5 := h3 _ (by rw [hd]; exact List.mem_cons_self ..)
      rw [h5] at h4; cases h4
theorem TwinZ.isAt (h : TwinZ S R zs) (p : Pt) : R.isAt p = S.has p := by
  rw [Bool.eq_iff_iff, h.isAt_iff, h.has_iff]
theorem TwinZ.okB (h : TwinZ S R zs) (p : Pt) (c : Coin) : R.okB p c = S.okB p c := by
  have ht := h.total
  have hm := h.most
  rw [Bool.eq_iff_iff]
  simp only [RC.okB, USet.okB, h.isAt, h.sum, bothB, mayB, Bool.and_eq_true, Bool.not_eq_true', decide_eq_false_iff_not, decide_eq_true_eq, ht.1]
  have hc := c.amt.toInt_lt
  by_cases ha : 1 ≤ c.amt.toInt ∧ c.amt.toInt ≤ 1125899906842624
  · rw [wrap_i64 (n := 1125899906842624 - c.amt.toInt) (by omega) (by omega), wrap_i64 (n := sumC zs + c.amt.toInt) (by omega) (by omega)]
    constructor
    · rintro ⟨⟨⟨⟨⟨a1, a2⟩, a3⟩, a4⟩, a5⟩, a6⟩; exact ⟨⟨⟨⟨by omega, by omega⟩, by omega⟩, a1⟩, ⟨⟨⟨by omega, by omega⟩, ⟨by omega, by omega⟩⟩, ⟨by omega, by omega⟩⟩⟩
    · rintro ⟨⟨⟨⟨a1, a2⟩, a3⟩, a4⟩, ⟨⟨⟨a5, a6⟩, ⟨a7, a8⟩⟩, ⟨a9, a10⟩⟩⟩; exact ⟨⟨⟨⟨⟨a4, by omega⟩, by omega⟩, by omega⟩, by omega⟩, by omega⟩
  · constructor
    · rintro ⟨⟨⟨⟨⟨a1, a2⟩, a3⟩, a4⟩, a5⟩, a6⟩; omega
    · rintro ⟨⟨⟨⟨a1, a2⟩, a3⟩, a4⟩, ⟨⟨⟨a5, a6⟩, ⟨a7, a8⟩⟩, ⟨a9, a10⟩⟩⟩; omega
theorem TwinZ.get (h : TwinZ S R zs) (p : Pt) : R.get p = S.get p := by
  unfold RC.get
  by_cases hp : R.isAt p = true
  · rw [if_pos hp]
    have hp' := hp
    simp only [RC.isAt, Bool.and_eq_true, decide_eq_true_eq] at hp'
    have hl : R.pos p < zs.length := by rw [← h.len.1]; exact hp'.1
    have ha := h.at hl
    rw [hp'.2] at ha
    have h2 := ha.2.2
    rw [← ha.1] at h2
    unfold USet.get
    rw [h2, ha.2.1]
    rfl
  · rw [if_neg hp]
    rw [h.isAt] at hp
    unfold USet.has at hp
    unfold USet.get
    cases hm : mget S.coins p with
    | none => rfl
    | some v => rw [hm] at hp; exact absurd rfl hp
theorem TwinZ.add1 (h : TwinZ S R zs) {p : Pt} {c : Coin} (hok : S.okB p c = true) : Twin (S.add1 p c) (R.add1 p c) := by
  obtain ⟨h1, h2, h3⟩ := posIn_split (p := p) h.srt
  have hhas := okB_has hok
  have hnot : p ∉ zs.map (·.1) := fun hm => by rw [(h.has_iff p).2 hm] at hhas; cases hhas
  have hokR := hok
  rw [← h.okB] at hokR
  simp only [RC.okB, h.sum, Bool.and_eq_true, Bool.not_eq_true', decide_eq_false_iff_not, h.total.1] at hokR
  obtain ⟨⟨⟨⟨⟨_, _⟩, _⟩, a4⟩, a5⟩, a6⟩ := hokR
  have h0 := h.total.2
  have hm := h.most
  rw [wrap_i64 (by omega) (by omega)] at a6
  have hzp : (zs.take (R.pos p) ++ (p, c) :: zs.drop (R.pos p)).Perm ((p, c) :: zs) := by
    refine List.perm_middle.trans ?_
    rw [List.take_append_drop]
  have hinv : Inv (S.add1 p c) := by
    have := h.inv.add p c
    unfold USet.add at this
    rwa [if_pos hok] at this
  refine ⟨zs.take (R.pos p) ++ (p, c) :: zs.drop (R.pos p), ?_, ?_, ?_, ?_, hinv, ?_, ?_⟩
  · simp only [RC.add1, h.P, List.map_append, List.map_cons, List.map_take, List.map_drop]
  · simp only [RC.add1, h.C, List.map_append, List.map_cons, List.map_take, List.map_drop]
  · have hc : (S.add1 p c).coins = S.coins ++ [(p, c)] := by
      simp only [USet.add1, USet.put]
      exact mput_none (mget_key hhas)
    rw [hc]
    exact (hzp.trans (h.perm.cons _)).trans (List.perm_append_singleton _ _).symm
  · rw [h.pos]
    have hsplit := h.srt
    rw [← List.take_append_drop (posIn p (zs.map (·.1))) zs, List.pairwise_append] at hsplit
    obtain ⟨s1, s2, s3⟩ := hsplit
    rw [List.pairwise_append]
    refine ⟨s1, ?_, fun x hx y hy => ?_⟩
    · rw [List.pairwise_cons]
      refine ⟨fun y hy => ?_, s2⟩
      have hy1 := h3 y hy
      have hne : y.1 ≠ p := fun e => hnot (List.mem_map.2 ⟨y, List.mem_of_mem_drop hy, e⟩)
      show ltPt p y.1 = true
      cases hl : ltPt p y.1 with
      | true => rfl
      | false => exact absurd (ltPt_total _ _ hl hy1).symm hne
    · rcases List.mem_cons.1 hy with rfl | hy
      · exact h2 x hx
      · exact s3 x hx y hy
  · intro x hx
    rcases List.mem_cons.1 (hzp.mem_iff.1 hx) with rfl | hx
    · show 1 ≤ c.amt.toInt; omega
    · exact h.amt x hx
  · rw [sumC_perm hzp]
    simp only [sumC]
    omega
theorem Twin.empty : Twin USet.empty RC.empty := ⟨[], rfl, rfl, List.Perm.refl _, List.Pairwise.nil, Inv.empty, fun _ h => (by cases h), by decide⟩
theorem Twin.add {S : USet} {R : RC} (h : Twin S R) (p : Pt) (c : Coin) : Twin (S.add p c) (R.add p c) := by
  obtain ⟨zs, h⟩ := h
  unfold USet.add RC.add
  rw [h.okB]
  split
  · rename_i hok; exact h.add1 hok
  · exact ⟨zs, h⟩
end
end Go.Proofs.YtnpkdoggfnlapaaGreatDoor
namespace Go.Proofs.YtnpkdoggfnlapaaGreatDoor
set_option maxRecDepth 100000
open Go.Sx
def AlikeR (S : USet) (R : RC) : Prop := ∀ p, R.isAt p = S.has p ∧ R.get p = S.get p
end Go.Proofs.YtnpkdoggfnlapaaGreatDoor
namespace Go.Proofs.YtnpkdoggfnlapaaGreatDoor
set_option maxRecDepth 100000
open Go.Sx
theorem Twin.look {S : USet} {R : RC} (h : Twin S R) : AlikeR S R := fun p => by
  obtain ⟨zs, hz⟩ := h
  exact ⟨hz.isAt p, hz.get p⟩
theorem Twin.okB {S : USet} {R : RC} (h : Twin S R) (p : Pt) (c : Coin) : R.okB p c = S.okB p c := by
  obtain ⟨zs, hz⟩ := h
  exact hz.okB p c
theorem Twin.add1 {S : USet} {R : RC} (h : Twin S R) {p : Pt} {c : Coin} (hok : S.okB p c = true) : Twin (S.add1 p c) (R.add1 p c) := by
  obtain ⟨zs, hz⟩ := h
  exact hz.add1 hok
end Go.Proofs.YtnpkdoggfnlapaaGreatDoor
namespace Go.Proofs.YtnpkdoggfnlapaaGreatDoor
set_option maxRecDepth 100000
open Go.Sx
def amtN (a : AcsM) : Nat → Int
  | 0 => 0
  | n + 1 => amtN a n + (accA a n).amt
theorem amtN_mono {a : AcsM} {i j : Nat} (h : i ≤ j) : amtN a i + (j - i : Nat) ≤ amtN a j := by
  induction j with
  | zero => obtain rfl : i = 0 := by omega
            simp
  | succ j ih =>
    have := (accA_amt a j).1
    by_cases e : i = j + 1
    · subst e; simp
    · have := ih (by omega)
      rw [amtN]; omega
theorem amtN_le (a : AcsM) (n : Nat) : 0 ≤ amtN a n ∧ amtN a n ≤ 65536 * n := by
  induction n with
  | zero => simp [amtN]
  | succ n ih =>
    have := accA_amt a n
    rw [amtN]; omega
def TakenP (n t i k : Nat) : Prop := (t ≤ k ∧ k < t + i) ∨ k + n < t + i
def doneA (a : AcsM) (n t i : Nat) : Int := if t + i ≤ n then amtN a (t + i) - amtN a t else amtN a n - amtN a t + amtN a (t + i - n)
structure AllI (a : AcsM) (rest : Int) (t i : Nat) (x : SideM) (S : USet) : Prop where
  keep : KeepI (amtN a a.pl.length + rest) x S
  ceased : x.ceased = true
  root : x.root = rootA a
  bal : x.bal = amtN a a.pl.length + rest - doneA a a.pl.length t i
  used : ∀ k, k < a.pl.length → ((plA a k : Int) ∈ x.used ↔ TakenP a.pl.length t i k)
  many : x.used.length = i
  coins : ∀ k, k < a.pl.length → S.has (ptAt (claimID (claimN a k)) 0) = true → TakenP a.pl.length t i k
def nextK (n t i : Nat) : Nat := (t + i) % n
theorem nextK_lt {n t i : Nat} (hn : 0 < n) : nextK n t i < n := Nat.mod_lt _ hn
theorem nextK_eq {n t i : Nat} (ht : t < n) (hi : i < n) : nextK n t i = if t + i < n then t + i else t + i - n := by
  unfold nextK
  split
  · rw [Nat.mod_eq_of_lt (by assumption)]
  · rw [Nat.mod_eq_sub_mod (by omega), Nat.mod_eq_of_lt (by omega)]
theorem taken_next {n t i k : Nat} (ht : t < n) (hi : i < n) (hk : k < n) : TakenP n t (i + 1) k ↔ (TakenP n t i k ∨ k = nextK n t i) := by
  rw [nextK_eq ht hi]
  unfold TakenP
  split <;> omega
theorem not_taken {n t i : Nat} (ht : t < n) (hi : i < n) : ¬ TakenP n t i (nextK n t i) := by
  rw [nextK_eq ht hi]
  unfold TakenP
  split <;> omega
theorem done_next {a : AcsM} {n t i : Nat} (ht : t < n) (hi : i < n) : doneA a n t (i + 1) = doneA a n t i + (accA a (nextK n t i)).amt := by
  rw [nextK_eq ht hi]
  unfold doneA
  by_cases h : t + i < n
  · rw [if_pos h, if_pos (by omega), if_pos (by omega), ← Nat.add_assoc, amtN]; omega
  · rw [if_neg h]
    by_cases h2 : t + i = n
    · rw [if_neg (by omega), if_pos (by omega), show t + (i + 1) - n = 0 + 1 by omega, h2, Nat.sub_self, amtN, amtN]; omega
    · rw [if_neg (by omega), if_neg (by omega), show t + (i + 1) - n = t + i - n + 1 by omega, amtN]; omega
theorem done_le {a : AcsM} {n t i : Nat} (ht : t < n) (hi : i ≤ n) : doneA a n t i ≤ amtN a n := by
  unfold doneA
  split
  · have := amtN_mono (a := a) (i := t + i) (j := n) (by omega)
    have := (amtN_le a t).1
    omega
  · have := amtN_mono (a := a) (i := t + i - n) (j := t) (by omega)
    omega
theorem done_all {a : AcsM} {n t : Nat} (ht : t < n) : doneA a n t n = amtN a n := by
  unfold doneA
  split
  · obtain rfl : t = 0 := by omega
    simp [amtN]
  · rw [show t + n - n = t by omega]; omega
theorem AllI.step {a : AcsM} {rest : Int} {t i : Nat} {x : SideM} {S : USet} (h : AllI a rest t i x S) (hf : Fair a) (hr : 0 ≤ rest ∧ rest ≤ 100000) (ht : t < a.pl.length) (hi : i < a.pl.length) (ids : ∀ j k, j < a.pl.length → k < a.pl.length → claimID (claimN a j) = claimID (claimN a k) → j = k) (H : Int64) :
    ∃ x' S', takeE [x] S (claimN a (nextK a.pl.length t i)) H = (([x'], S'), 0) ∧ takeE [x'] S' (claimN a (nextK a.pl.length t i)) H = (([x'], S'), 13) ∧ AllI a rest t (i + 1) x' S' ∧
      S'.has (ptAt (claimID (claimN a (nextK a.pl.length t i))) 0) = true ∧ S'.get (ptAt (claimID (claimN a (nextK a.pl.length t i))) 0) = ⟨(accA a (nextK a.pl.length t i)).owner, Int64.ofInt (accA a (nextK a.pl.length t i)).amt, H, false⟩ ∧
      S'.steps.length = S.steps.length + 1 ∧ x'.par = x.par ∧ x'.cert = x.cert := by
  obtain ⟨k, hk⟩ : ∃ k, nextK a.pl.length t i = k := ⟨_, rfl⟩
  have hkl : k < a.pl.length := by rw [← hk]; exact nextK_lt (by omega)
  have hnt : ¬ TakenP a.pl.length t i k := by rw [← hk]; exact not_taken ht hi
  have hd := done_next (a := a) ht hi
  have hdl := done_le (a := a) (n := a.pl.length) (t := t) (i := i + 1) ht hi
  rw [hk] at hd ⊢
  have h1 := claimN_ok (a := a) hkl
  have h2 := claimN_side (a := a) hkl
  have e1 := claimN_acct (a := a) hkl
  have e2 := claimN_st (a := a) hkl
  have ham := accA_amt a k
  have hsl := amtN_le a a.pl.length
  have hfew := hf.few
  have hbal := h.bal
  have hk0 := h.keep.sum
  have hb0 := h.keep.bal
  have hc0 := h.keep.clm
  have htot := h.keep.tot
  have h3 : checkX x (claimN a k) = 0 := checkX_good h.ceased (by rw [e1, h.used k hkl]; exact hnt) (by rw [h.root]; exact claimN_proof hf hkl) (by rw [e2]; omega)
  have h4 : S.has (ptAt (claimID (claimN a k)) 0) = false := by
    cases hh : S.has (ptAt (claimID (claimN a k)) 0) with
    | false => rfl
    | true => exact absurd (h.coins k hkl hh) hnt
  have h64 : (Int64.ofInt (claimN a k).st.amt).toInt = (claimN a k).st.amt := amt64 h1
  have h5 : S.okB (ptAt (claimID (claimN a k)) 0) ⟨(claimN a k).st.owner, Int64.ofInt (claimN a k).st.amt, H, false⟩ = true := okB_of h4 rfl (by show 1 ≤ (Int64.ofInt (claimN a k).st.amt).toInt; rw [h64, e2]; exact ham.1) (by omega) (by show S.total + (Int64.ofInt (claimN a k).st.amt).toInt ≤ _; rw [h64, e2]; omega)
  have hp := h.keep.paid (by omega) h1 h3 (k := ⟨(claimN a k).st.owner, Int64.ofInt (claimN a k).st.amt, H, false⟩) h4 h64
  refine ⟨_, _, take_paid h1 h2 h3 h4 h5, ?_, ⟨hp.1, h.ceased, h.root, ?_, fun j hj => ?_, ?_, fun j hj hh => ?_⟩, ?_, ?_, ?_, rfl, rfl⟩
  · refine take_bad ?_ (by decide)
    rw [checkE_one h1 h2, checkX, if_neg (by show ¬ x.ceased = false; rw [h.ceased]; simp), if_pos (show (claimN a k).acct ∈ (takeX x (claimN a k)).used from mem_insU.2 (.inl rfl))]
  · rw [hp.2.1, e2, hbal, hd]; omega
  · show (plA a j : Int) ∈ insU x.used (claimN a k).acct ↔ _
    rw [mem_insU, taken_next ht hi hj, hk, h.used j hj, e1]
    constructor
    · rintro (h6 | h6)
      · exact .inr (hf.apart k j hkl hj (by omega))
      · exact .inl h6
    · rintro (h6 | h6)
      · exact .inr h6
      · exact .inl (by rw [h6])
  · show (insU x.used (claimN a k).acct).length = _
    rw [insU_len, h.many]
  · rw [taken_next ht hi hj, hk]
    by_cases e : claimID (claimN a j) = claimID (claimN a k)
    · exact .inr (ids j k hj hkl e)
    · refine .inl (h.coins j hj ?_)
      have hne : ptAt (claimID (claimN a j)) 0 ≠ ptAt (claimID (claimN a k)) 0 := fun e' => e (congrArg Pt.tx e')
      have : (mget (mput S.coins (ptAt (claimID (claimN a k)) 0) _) (ptAt (claimID (claimN a j)) 0)).isSome = true := hh
      rwa [mget_put_ne hne] at this
  · show (mget (mput S.coins _ _) _).isSome = true
    rw [mget_put_self]; rfl
  · show (mget (mput S.coins _ _) _).getD coin0 = _
    rw [mget_put_self, e2]; rfl
  · show (S.steps ++ [_]).length = _
    rw [List.length_append]; rfl
theorem AllI.done {a : AcsM} {rest : Int} {t : Nat} {x : SideM} {S : USet} (h : AllI a rest t a.pl.length x S) (ht : t < a.pl.length) : x.clm = amtN a a.pl.length ∧ x.bal = rest ∧ x.used.length = a.pl.length ∧ S.total = amtN a a.pl.length := by
  have h1 := h.bal
  have h2 := h.keep.sum
  have h3 := h.keep.tot
  rw [done_all ht] at h1
  exact ⟨by omega, by omega, h.many, by omega⟩
structure MoneyI (a : AcsM) (n : Int) (used : Nat → Bool) (x : SideM) (S : USet) : Prop where
  keep : KeepI n x S
  ceased : x.ceased = true
  root : x.root = rootA a
  used : ∀ k, k < a.pl.length → ((plA a k : Int) ∈ x.used ↔ used k = true)
theorem MoneyI.step {a : AcsM} {n : Int} {used : Nat → Bool} {x : SideM} {S : USet} (h : MoneyI a n used x S) (hf : Fair a) (hn : n ≤ 1000) {k : Nat} (hk : k < a.pl.length) (H : Int64) :
    ∃ x' S' e, takeE [x] S (claimN a k) H = (([x'], S'), e) ∧ (used k = true → e = 13) ∧ (used k = false → x.bal < (accA a k).amt → e = 5) ∧ (e ≠ 0 → x' = x ∧ S' = S) ∧
      (e = 0 → x'.bal = x.bal - (accA a k).amt) ∧ MoneyI a n (fun j => if e = 0 ∧ j = k then true else used j) x' S' ∧ S'.steps.length ≤ S.steps.length + 1 ∧ x'.used.length ≤ x.used.length + 1 ∧ x'.par = x.par ∧ x'.cert = x.cert := by
  have h1 := claimN_ok (a := a) hk
  have h2 := claimN_side (a := a) hk
  have e1 := claimN_acct (a := a) hk
  have e2 := claimN_st (a := a) hk
  have same : ∀ e : Int, e ≠ 0 → MoneyI a n (fun j => if e = 0 ∧ j = k then true else used j) x S := fun e he => by
    have : (fun j => if e = 0 ∧ j = k then true else used j) = used := funext fun j => if_neg fun h => he h.1
    rw [this]; exact h
  cases hu : used k with
  | true =>
    have hb : checkE [x] (claimN a k) = 13 := by
      rw [checkE_one h1 h2, checkX, if_neg (by rw [h.ceased]; simp), if_pos (by rw [e1]; exact (h.used k hk).2 hu)]
    exact ⟨x, S, 13, take_bad hb (by decide), fun _ => rfl, fun h => (by cases h), fun _ => ⟨rfl, rfl⟩, fun h => (by cases h), same 13 (by decide), Nat.le_succ _, Nat.le_succ _, rfl, rfl⟩
  | false =>
    have hnu : (claimN a k).acct ∉ x.used := by rw [e1, h.used k hk, hu]; simp
    have hpr : proofOK x.root (claimN a k) = true := by rw [h.root]; exact claimN_proof hf hk
    by_cases hm : x.bal < (accA a k).amt
    · have hb : checkE [x] (claimN a k) = 5 := by
        rw [checkE_one h1 h2, checkX, if_neg (by rw [h.ceased]; simp), if_neg hnu, if_neg (by rw [hpr]; simp), if_pos (by rw [e2]; exact hm)]
      exact ⟨x, S, 5, take_bad hb (by decide), fun h => (by cases h), fun _ _ => rfl, fun _ => ⟨rfl, rfl⟩, fun h => (by cases h), same 5 (by decide), Nat.le_succ _, Nat.le_succ _, rfl, rfl⟩
    · rcases takeE_cases x S (claimN a k) H with ⟨e, he, h3⟩ | ⟨h3, _, h4, h5, _⟩
      · exact ⟨x, S, e, h3, fun h => (by cases h), fun _ h => absurd h hm, fun _ => ⟨rfl, rfl⟩, fun h => absurd h he, same e he, Nat.le_succ _, Nat.le_succ _, rfl, rfl⟩
      · have hp := h.keep.paid (k := ⟨(claimN a k).st.owner, Int64.ofInt (claimN a k).st.amt, H, false⟩) (by omega) h1 h4 h5 (amt64 h1)
        refine ⟨_, _, 0, h3, fun h => (by cases h), fun _ h => absurd h hm, fun h => absurd rfl h, fun _ => by rw [hp.2.1, e2], ⟨hp.1, h.ceased, h.root, fun j hj => ?_⟩, ?_, ?_, rfl, rfl⟩
        · show (plA a j : Int) ∈ insU x.used (claimN a k).acct ↔ _
          rw [mem_insU, h.used j hj, e1]
          by_cases e : j = k
          · subst e; simp
          · rw [if_neg (by intro h; exact e h.2)]
            constructor
            · rintro (h6 | h6)
              · exact absurd (hf.apart k j hk hj (by omega)) e
              · exact h6
            · exact fun h6 => .inr h6
        · show (S.steps ++ [_]).length ≤ _
          rw [List.length_append]; exact Nat.le_refl _
        · show (insU x.used (claimN a k).acct).length ≤ _
          rw [insU_len]; exact Nat.le_refl _
end Go.Proofs.YtnpkdoggfnlapaaGreatDoor
namespace Go.Proofs.YtnpkdoggfnlapaaGreatDoor
set_option maxRecDepth 100000
open Go.Sx
abbrev rrS : TypeId := 108
abbrev rrE : TypeId := 109
abbrev rReg (L : List SideM) : AbsP := regP rrS rrE L
theorem boxed_par (p : ParM) (h : Int) (q : Nat) (hq : Boxed q [.vec 29 8 p.keys.length (keysF p.keys)] [.ins q 1 0 p.keys.length] [.row 8 p.keys.length (keysF p.keys)]) : Boxed q [.vec 29 8 p.keys.length (keysF p.keys)] (sideCells (sideOf p h) (.ins q 1 0 p.keys.length) nilV nilV nilV) (sideOf p h).ac :=
  boxed_side (x := sideOf p h) hq ⟨.inl ⟨rfl, rfl⟩, trivial⟩ ⟨.inl ⟨rfl, rfl⟩, trivial⟩ ⟨.inl ⟨rfl, rfl⟩, trivial⟩
theorem boxed_keys (p : ParM) (q : Nat) : Boxed q [.vec 29 8 p.keys.length (keysF p.keys)] [.ins q 1 0 p.keys.length] [.row 8 p.keys.length (keysF p.keys)] := ⟨.inr ⟨0, _, _, rfl, rfl, Nat.le_refl _, rfl⟩, trivial⟩
def rcSlots (h : Int) (c : Nat) : List (Option XV) := [some (XV.sv (.ptr 0 0 0 0)), none, some (XV.int .i64 h), none, some (XV.sv (.ptr c 0 0 0))] ++ List.replicate 35 none
def parW (p : ParM) (k : SV) : Chunk := .cells 40 (parCells p k)
def keysV (p : ParM) : Chunk := .vec 29 8 p.keys.length (keysF p.keys)
theorem packs1 {M : Mem} {i : Nat} {c0 c : Chunk} (h : M.get i = some c0) (hc : ChLe c0 c) : ∀ (j k : Nat) (ch : Chunk), [i][j]? = some k → [c][j]? = some ch → ∃ ch0, M.get k = some ch0 ∧ ChLe ch0 ch := by
  intro j k ch h1 h2
  rcases j with _ | j
  · cases h1; cases h2; exact ⟨_, h, hc⟩
  · cases h1
set_option maxHeartbeats 4000000 in
theorem rcreate_can (L : List SideM) (p : ParM) (h : Int) (hl : p.keys.length ≤ 1000000) (hL : L.length < 8) (hp : parB p = true) : Acts Tryz.prog 65 (.abs (rReg L)) (.abs (rReg (L ++ [sideOf p h]))) [.box p.ac, .plain (.one (.raw (.int .i64 h)))] [] (.tup [.one (.raw (.int .i64 L.length)), .one (.raw (.int .i64 0))]) := by
  have hq := rmayPar_can p (by omega)
  rw [hp] at hq
  refine Acts.of Tryz.T_ok Tryz.func65 rfl _ _ _ _ _ rfl rfl rfl (fun C hC => ?_)
  (replace hC : C.n0 = 3 := hC; change Tri _ _ _ ⟨_, _, 3⟩ _)
  rcases L with _ | ⟨x, r⟩
  · refine Reg.opens0 rrS rrE 0 rfl ?_
    (refine Tri.cut 4 Tryz.mixed Tryz.T_ok ?_; refine xZ ?_)
    (apply wP; exact (call_op rfl (entersB_of Tryz.func112 (by kernel_rfl)) rfl (hq.at [1] ⟨lend_par (lend_ro0 rfl rfl), trivial⟩ trivial)); refine xZ ?_)
    (refine wP _ _ (append_op Tryz.T_ok rfl rfl rfl rfl rfl [1] (old_nil rfl _ _ _ (fun _ => [])) (new_ro (lo := 0) rfl rfl (Nat.le_of_eq (Nat.zero_add _)) rfl) rfl (fun _ _ => rfl) (by simp only [maxLen]; omega) (by dsimp only; omega)) ?_; refine xZ ?_)
    simp only [Nat.zero_add]
    refine wD <| cutG <| Tri.ent (S' := ⟨rcSlots h 3, [(0, .cells rrS [nilV]), (3, parW p (.slc 4 8 0 p.keys.length)), (4, keysV p)], 5⟩) ?_ <| Tri.ent (Ent.pack2 [4] [keysV p] (by decide) rfl rfl (packs1 rfl (ChLe.refl _ rfl))) <|
      Tri.ent (S' := ⟨rcSlots h 3, [(0, .cells rrS [nilV]), (3, parW p (.ins 4 1 0 p.keys.length)), (4, .abs (PackP [keysV p]))], 5⟩) ?_ (Tri.of Tryz.mixed Tryz.T_ok ?_)
    · unfold rcSlots parW keysV
      ((try dsimp only); refine Ent.renC [0, 1, 2, 4, 18] hC ?_ ?_ <;> repeat' (first | exact trivial | exact rfl | exact ⟨_, rfl, rfl, rfl, Nat.le_refl _, fun _ _ => rfl⟩ | exact ⟨_, rfl, rfl, rfl, fun _ _ => rfl⟩ | exact ⟨_, rfl, rfl, rfl⟩ | exact ⟨_, rfl, rfl⟩ | refine ⟨_, rfl, rfl, rfl, by omega, fun k hk => ?_⟩ | refine ⟨?_, ?_⟩ | fail))
    · unfold rcSlots parW keysV
      ((try dsimp only); refine Ent.renC [0, 1, 2, 3, 5] hC ?_ ?_ <;> repeat' (first | exact trivial | exact rfl | exact ⟨_, rfl, rfl, rfl, Nat.le_refl _, fun _ _ => rfl⟩ | exact ⟨_, rfl, rfl, rfl, fun _ _ => rfl⟩ | exact ⟨_, rfl, rfl, rfl⟩ | exact ⟨_, rfl, rfl⟩ | refine ⟨_, rfl, rfl, rfl, by omega, fun k hk => ?_⟩ | refine ⟨?_, ?_⟩ | fail))
    unfold rcSlots parW keysV
    (refine xB ?_)
    (refine wP _ _ (appendNils_op Tryz.T_ok rfl rfl rfl rfl rfl rfl) ?_; refine xZ ?_)
    (refine wP _ _ (boxSlice_op Tryz.T_ok rfl rfl rfl) ?_; refine xZ ?_)
    (refine wP _ _ (appendBox_op Tryz.T_ok rfl rfl rfl rfl rfl rfl rfl rfl (p := 4) rfl rfl rfl (by decide) (boxed_par p h 4 (boxed_keys p 4))) ?_; refine xZ ?_)
    exact wD (Ends.shutN (.inr rfl) (Reg.shuts rrS rrE [sideOf p h] 0 (i1 := 15) Nat.one_pos rfl rfl rfl rfl rfl (lt1 rfl)) rfl rfl rfl)
  · have hLr : r.length + 1 < 8 := hL
    refine Reg.opensD rrS rrE (x :: r) 0 (Nat.succ_pos _) rfl ?_
    (refine Tri.cut 4 Tryz.mixed Tryz.T_ok ?_; refine xZ ?_)
    (apply wP; exact (call_op rfl (entersB_of Tryz.func112 (by kernel_rfl)) rfl (hq.at [1] ⟨lend_par (lend_ro0 rfl rfl), trivial⟩ trivial)); refine xZ ?_)
    (refine wFd ?_ ?_; (first | refine decide_eq_false ?_ | rw [beq_eq_false_iff_ne] | rw [bne_eq_false_iff_eq]); exact xW; refine xG ?_)
    (refine wP _ _ (append_op Tryz.T_ok rfl rfl rfl rfl rfl [1] (old_nil rfl _ _ _ (fun _ => [])) (new_ro (lo := 0) rfl rfl (Nat.le_of_eq (Nat.zero_add _)) rfl) rfl (fun _ _ => rfl) (by simp only [maxLen]; omega) (by dsimp only; omega)) ?_; refine xZ ?_)
    simp only [Nat.zero_add]
    refine wD <| cutG <| Tri.ent (S' := ⟨rcSlots h 4, [(0, .cells rrS [.slc 3 42 0 (x :: r).length]), (3, .abs (DeepP rrE 42 (x :: r).length (regF (x :: r)))), (4, parW p (.slc 5 8 0 p.keys.length)), (5, keysV p)], 6⟩) ?_ <| Tri.ent (Ent.pack2 [5] [keysV p] (by decide) rfl rfl (packs1 rfl (ChLe.refl _ rfl))) <|
      Tri.ent (S' := ⟨rcSlots h 4, [(0, .cells rrS [.slc 3 42 0 (x :: r).length]), (3, .abs (DeepP rrE 42 (x :: r).length (regF (x :: r)))), (4, parW p (.ins 5 1 0 p.keys.length)), (5, .abs (PackP [keysV p]))], 6⟩) ?_ (Tri.of Tryz.mixed Tryz.T_ok ?_)
    · unfold rcSlots parW keysV
      ((try dsimp only); refine Ent.renC [0, 1, 2, 4, 5, 19] hC ?_ ?_ <;> repeat' (first | exact trivial | exact rfl | exact ⟨_, rfl, rfl, rfl, Nat.le_refl _, fun _ _ => rfl⟩ | exact ⟨_, rfl, rfl, rfl, fun _ _ => rfl⟩ | exact ⟨_, rfl, rfl, rfl⟩ | exact ⟨_, rfl, rfl⟩ | refine ⟨_, rfl, rfl, rfl, by omega, fun k hk => ?_⟩ | refine ⟨?_, ?_⟩ | fail))
    · unfold rcSlots parW keysV
      ((try dsimp only); refine Ent.renC [0, 1, 2, 3, 4, 6] hC ?_ ?_ <;> repeat' (first | exact trivial | exact rfl | exact ⟨_, rfl, rfl, rfl, Nat.le_refl _, fun _ _ => rfl⟩ | exact ⟨_, rfl, rfl, rfl, fun _ _ => rfl⟩ | exact ⟨_, rfl, rfl, rfl⟩ | exact ⟨_, rfl, rfl⟩ | refine ⟨_, rfl, rfl, rfl, by omega, fun k hk => ?_⟩ | refine ⟨?_, ?_⟩ | fail))
    unfold rcSlots parW keysV
    (refine xB ?_)
    (refine wP _ _ (copyDeep_op Tryz.T_ok rfl rfl rfl rfl rfl rfl rfl rfl (by decide) (Nat.succ_pos _) (by simp only [maxLen]; omega) (by dsimp only; omega) (fun i _ => SideM.ac_one _)) ?_; refine xZ ?_)
    (refine wP _ _ (boxSlice_op Tryz.T_ok rfl rfl rfl) ?_; refine xZ ?_)
    (refine wP _ _ (appendBoxes_op Tryz.T_ok rfl rfl rfl rfl rfl rfl rfl rfl rfl (p := 5) rfl (by decide) (by decide) rfl rfl (by simp only [maxLen]; omega) (by dsimp only; omega) (boxed_par p h 5 (boxed_keys p 5))) ?_; refine xZ ?_)
    have hl1 : ((x :: r) ++ [sideOf p h]).length = (x :: r).length + 1 := by simp
    refine wD (Ends.shutN (.inr rfl) (Reg.shuts rrS rrE ((x :: r) ++ [sideOf p h]) 0 (i1 := 16) (m := (x :: r).length + 1) (n := (x :: r).length + 1) (by omega) rfl rfl rfl hl1.symm hl1.symm (fun i hi => regF_snoc hi)) rfl rfl ?_)
    have e : IntKind.i64.wrap ((((x :: r).length + 1 : Nat) : Int) - 1) = ((x :: r).length : Int) := xW
    show XV.tup [.one (.raw (.int .i64 (IntKind.i64.wrap ((((x :: r).length + 1 : Nat) : Int) - 1)))), _] = _
    rw [e]
set_option maxHeartbeats 4000000 in
theorem rforward_in (L : List SideM) (i : Nat) (hi : i < L.length) (a : Int) (o : H8) (n : Int) : Acts Tryz.prog 67 (.abs (rReg L)) (.abs (rReg (L.set i (fwdX (L.getD i default) n)))) [.plain (fwdC i a o n)] [] (XV.int .i64 (fwdE (L.getD i default) n)) := by
  have h0 : 0 < L.length := by omega
  refine Acts.of Tryz.T_ok Tryz.func67 rfl _ _ _ _ _ rfl rfl rfl (fun C hC => ?_)
  (replace hC : C.n0 = 2 := hC; change Tri _ _ _ ⟨_, _, 2⟩ _)
  refine Reg.opens rrS rrE L 0 h0 rfl (Nat.le_of_ble_eq_true rfl) (fun ad => Tri.of Tryz.mixed Tryz.T_ok ?_)
  (refine xB ?_)
  (refine wFd ?_ ?_; (first | refine decide_eq_false ?_ | rw [beq_eq_false_iff_ne] | rw [bne_eq_false_iff_eq]); exact xW; refine xG ?_)
  (refine wFd ?_ ?_; (first | refine decide_eq_false ?_ | rw [beq_eq_false_iff_ne] | rw [bne_eq_false_iff_eq]); exact xW; refine xG ?_)
  (repeat (refine wN ?_ ?_; exact xW; refine xG ?_))
  simp only [Nat.zero_add, Int.toNat_natCast]
  obtain ⟨x, hx⟩ : ∃ x, L.getD i default = x := ⟨_, rfl⟩
  have no : ∀ {S : St} {mem : Mem} {e : Int}, fwdE x n = e → e ≠ 0 → Ent C S ⟨S.slots, (0, .abs (rReg L)) :: mem, S.nx⟩ → resX Tryz.T ⟨S.slots, (0, .abs (rReg L)) :: mem, S.nx⟩ Tryz.f67.results.toList = some (XV.int .i64 e) →
      Sx.Ends C Tryz.T Tryz.f67.results.toList 1 2 ⟨XV.int .i64 (fwdE (L.getD i default) n), [(0, .abs (rReg (L.set i (fwdX (L.getD i default) n))))], none⟩ .ret S := by
    intro S mem e he h0 hE hr
    rw [fwd_same hi (by rw [hx, he]; exact h0), hx, he]
    exact Ends.shutN (.inr rfl) hE rfl hr rfl
  have shut := fun {slots : List (Option XV)} {mem : Mem} {nx : Nat} k0 k1 k2 => Reg.shutsO (C := C) (slots := slots) (mem := mem) (nx := nx) rrS rrE L L 0 (i1 := 3) (q := 4) (ad := ad) (m := L.length) (n := L.length) h0 k0 k1 k2 rfl rfl rfl (fun _ _ => rfl) regF_raw
  refine wC (fun h1 => ?_) (fun h1 => ?_)
  · rw [hx] at h1
    (refine xG ?_)
    exact wD (no (if_pos h1) (by decide) (shut rfl rfl rfl) rfl)
  rw [hx] at h1
  have bad : fwdOKX x n = false → fwdE x n = 5 := fun h => by rw [fwdE, if_neg (by rw [h1]; simp), if_neg (by rw [h]; simp)]
  (refine xG ?_)
  refine wC (fun h2 => ?_) (fun h2 => ?_)
  · (refine xG ?_)
    exact wD (no (bad (by rw [fwdOKX, h2]; rfl)) (by decide) (shut rfl rfl rfl) rfl)
  (refine xG ?_)
  refine wC (fun h3 => ?_) (fun h3 => ?_)
  · have h3 : mayB n = false := by simp only [decide_eq_true_eq] at h3; rw [mayB, decide_eq_false (show ¬ n ≤ 1125899906842624 by omega), Bool.and_false]
    (refine xG ?_)
    exact wD (no (bad (by rw [fwdOKX, h2, h3]; rfl)) (by decide) (shut rfl rfl rfl) rfl)
  have h3 : mayB n = true := by simp only [decide_eq_false_iff_not] at h2 h3; rw [mayB, decide_eq_true (show 0 ≤ n by omega), decide_eq_true (show n ≤ 1125899906842624 by omega)]; rfl
  (refine xG ?_)
  refine wC (fun h4 => ?_) (fun h4 => ?_)
  · rw [hx] at h4
    (refine xG ?_)
    exact wD (no (bad (by rw [fwdOKX, h2, h3, roomI, h4]; rfl)) (by decide) (shut rfl rfl rfl) rfl)
  rw [hx] at h4
  (refine xG ?_)
  refine wC (fun h5 => ?_) (fun h5 => ?_)
  · rw [hx] at h5
    (refine xG ?_)
    exact wD (no (bad (by rw [fwdOKX, h2, h3, roomI, h4, h5]; rfl)) (by decide) (shut rfl rfl rfl) rfl)
  rw [hx] at h5
  have he : fwdE x n = 0 := by rw [fwdE, if_neg (by rw [h1]; simp), if_pos (by rw [fwdOKX, h2, h3, roomI, h4, h5]; rfl)]
  have hX : fwdX x n = { x with bal := IntKind.i64.wrap (x.bal + n), fwd := IntKind.i64.wrap (x.fwd + n) } := by rw [fwdX, if_pos he]
  (refine xG ?_)
  (repeat (refine wN ?_ ?_; exact xW; refine xG ?_))
  simp only [Nat.zero_add, Int.toNat_natCast]
  rw [hx, he, hX]
  have hl : ∀ y : SideM, (L.set i y).length = L.length := fun y => List.length_set ..
  refine wD (Ends.shutN (.inr rfl) (Reg.shutsO rrS rrE L (L.set i { x with bal := IntKind.i64.wrap (x.bal + n), fwd := IntKind.i64.wrap (x.fwd + n) }) 0 (i1 := 3) (q := 4) (ad := ad) (by rw [hl]; exact h0) rfl rfl rfl rfl (hl _).symm (hl _).symm (fun k hk => ?_) (fun k hk j y hy => ?_)) rfl rfl rfl)
  · by_cases hki : k = i
    · subst hki
      rw [updF_eq, regF_at hi]; rfl
    · rw [updF_ne hki, regF_ne hki]
  · by_cases hki : k = i
    · subst hki
      rw [regF_at hi] at hy
      rw [regF, hx]
      exact side_rows (x := { x with bal := IntKind.i64.wrap (x.bal + n), fwd := IntKind.i64.wrap (x.fwd + n) }) (y := x) rfl rfl rfl rfl hy
    · rw [regF_ne hki] at hy
      exact .inr hy
end Go.Proofs.YtnpkdoggfnlapaaGreatDoor
namespace Go.Proofs.YtnpkdoggfnlapaaGreatDoor
set_option maxRecDepth 100000
open Go.Sx
noncomputable def frc {α : Type} (x : Nat) (k : Nat → α) : α := @Nat.rec (fun _ => α) (k 0) (fun n _ => k (Nat.succ n)) x
theorem frc_eq {α : Type} (x : Nat) (k : Nat → α) : frc x k = k x := by cases x <;> rfl
def nrot (x n m : Nat) : Nat := Nat.lor (Nat.shiftRight x n) (Nat.mod (Nat.shiftLeft x m) 4294967296)
def nS0 (x : Nat) : Nat := Nat.xor (Nat.xor (nrot x 2 30) (nrot x 13 19)) (nrot x 22 10)
def nS1 (x : Nat) : Nat := Nat.xor (Nat.xor (nrot x 6 26) (nrot x 11 21)) (nrot x 25 7)
def ns0 (x : Nat) : Nat := Nat.xor (Nat.xor (nrot x 7 25) (nrot x 18 14)) (Nat.shiftRight x 3)
def ns1 (x : Nat) : Nat := Nat.xor (Nat.xor (nrot x 17 15) (nrot x 19 13)) (Nat.shiftRight x 10)
def nch (e f g : Nat) : Nat := Nat.xor (Nat.land e f) (Nat.land (Nat.xor 4294967295 e) g)
def nmaj (a b c : Nat) : Nat := Nat.xor (Nat.xor (Nat.land a b) (Nat.land a c)) (Nat.land b c)
def nT (e f g h k w : Nat) : Nat := Nat.mod (Nat.add (Nat.add (Nat.add (Nat.add h (nS1 e)) (nch e f g)) k) w) 4294967296
def nadd (a b : Nat) : Nat := Nat.mod (Nat.add a b) 4294967296
def nmix (w0 w1 w9 w14 : Nat) : Nat := Nat.mod (Nat.add (Nat.add (Nat.add w0 w9) (ns0 w1)) (ns1 w14)) 4294967296
abbrev B32 (x : Nat) : Prop := x < 4294967296
theorem bit_nat (f : BitVec 32 → BitVec 32 → BitVec 32) (g : Nat → Nat → Nat) (hf : ∀ a b, (f a b).toNat = g a.toNat b.toNat) {x y : Nat} (hx : B32 x) (hy : B32 y) : IntKind.u32.wrap ((f (BitVec.ofInt 32 (x : Int)) (BitVec.ofInt 32 (y : Int))).toNat : Int) = ((g x y : Nat) : Int) ∧ B32 (g x y) := by
  have e1 : (BitVec.ofInt 32 (x : Int)).toNat = x := by rw [ofInt_nat, BitVec.toNat_ofNat]; exact Nat.mod_eq_of_lt hx
  have e2 : (BitVec.ofInt 32 (y : Int)).toNat = y := by rw [ofInt_nat, BitVec.toNat_ofNat]; exact Nat.mod_eq_of_lt hy
  have h := (f (BitVec.ofInt 32 (x : Int)) (BitVec.ofInt 32 (y : Int))).isLt
  rw [hf, e1, e2] at h ⊢
  refine ⟨?_, h⟩
  rw [IntKind.wrap_u32]
  exact Int.emod_eq_of_lt (by omega) (by omega)
theorem xor_nat {x y : Nat} (hx : B32 x) (hy : B32 y) : bitI .xor .u32 (x : Int) (y : Int) = ((Nat.xor x y : Nat) : Int) := (bit_nat (· ^^^ ·) Nat.xor (fun a b => BitVec.toNat_xor a b) hx hy).1
theorem and_nat {x y : Nat} (hx : B32 x) (hy : B32 y) : bitI .and .u32 (x : Int) (y : Int) = ((Nat.land x y : Nat) : Int) := (bit_nat (· &&& ·) Nat.land (fun a b => BitVec.toNat_and a b) hx hy).1
theorem or_nat {x y : Nat} (hx : B32 x) (hy : B32 y) : bitI .or .u32 (x : Int) (y : Int) = ((Nat.lor x y : Nat) : Int) := (bit_nat (· ||| ·) Nat.lor (fun a b => BitVec.toNat_or a b) hx hy).1
theorem xor_lt {x y : Nat} (hx : B32 x) (hy : B32 y) : B32 (Nat.xor x y) := (bit_nat (· ^^^ ·) Nat.xor (fun a b => BitVec.toNat_xor a b) hx hy).2
theorem and_lt {x y : Nat} (hx : B32 x) (hy : B32 y) : B32 (Nat.land x y) := (bit_nat (· &&& ·) Nat.land (fun a b => BitVec.toNat_and a b) hx hy).2
theorem or_lt {x y : Nat} (hx : B32 x) (hy : B32 y) : B32 (Nat.lor x y) := (bit_nat (· ||| ·) Nat.lor (fun a b => BitVec.toNat_or a b) hx hy).2
theorem shr32_nat (x n : Nat) (hn : n ≤ 32) : shrI .u32 (x : Int) (n : Int) = ((Nat.shiftRight x n : Nat) : Int) := by
  have hb : IntKind.u32.bits = 32 := rfl
  have e : min ((n : Int).toNat) IntKind.u32.bits = n := by rw [hb]; omega
  rw [shrI, e, Int.fdiv_eq_ediv_of_nonneg _ (Int.le_of_lt (Int.pow_pos (by decide)))]
  show _ = ((x >>> n : Nat) : Int)
  rw [Nat.shiftRight_eq_div_pow, Int.natCast_ediv, Int.natCast_pow]
  rfl
theorem shl32_nat (x n : Nat) (hn : n ≤ 32) : shlI .u32 (x : Int) (n : Int) = ((Nat.mod (Nat.shiftLeft x n) 4294967296 : Nat) : Int) := by
  have hb : IntKind.u32.bits = 32 := rfl
  have e : min ((n : Int).toNat) IntKind.u32.bits = n := by rw [hb]; omega
  rw [shlI, e, IntKind.wrap_u32]
  show _ = ((x <<< n % 4294967296 : Nat) : Int)
  rw [Nat.shiftLeft_eq, Int.natCast_emod, Int.natCast_mul, Int.natCast_pow]
  rfl
theorem mod_lt32 (x : Nat) : B32 (Nat.mod x 4294967296) := Nat.mod_lt _ (by decide)
theorem shr_lt {x : Nat} (n : Nat) (hx : B32 x) : B32 (Nat.shiftRight x n) := by
  show x >>> n < _
  rw [Nat.shiftRight_eq_div_pow]
  exact Nat.lt_of_le_of_lt (Nat.div_le_self _ _) hx
theorem rot_lt {x : Nat} (n m : Nat) (hx : B32 x) : B32 (nrot x n m) := or_lt (shr_lt n hx) (mod_lt32 _)
theorem turn_nat {x n m : Nat} (hx : B32 x) (hn : n ≤ 32) (hm : m ≤ 32) (e : IntKind.u64.wrap (32 - (n : Int)) = (m : Int)) : turn (x : Int) (n : Int) = ((nrot x n m : Nat) : Int) := by
  rw [turn, e, shr32_nat x n hn, shl32_nat x m hm, or_nat (shr_lt n hx) (mod_lt32 _)]
  rfl
theorem w32_nat (a b : Nat) : w32 (a : Int) (b : Int) = ((nadd a b : Nat) : Int) := by
  rw [w32, IntKind.wrap_u32]
  show _ = (((a + b) % 4294967296 : Nat) : Int)
  omega
theorem rotR_nat {x : Nat} (hx : B32 x) : rotR (x : Int) 2 = ((nrot x 2 30 : Nat) : Int) ∧ rotR (x : Int) 13 = ((nrot x 13 19 : Nat) : Int) ∧ rotR (x : Int) 22 = ((nrot x 22 10 : Nat) : Int) ∧ rotR (x : Int) 6 = ((nrot x 6 26 : Nat) : Int) ∧ rotR (x : Int) 11 = ((nrot x 11 21 : Nat) : Int) ∧ rotR (x : Int) 25 = ((nrot x 25 7 : Nat) : Int)
    ∧ rotR (x : Int) 7 = ((nrot x 7 25 : Nat) : Int) ∧ rotR (x : Int) 18 = ((nrot x 18 14 : Nat) : Int) ∧ rotR (x : Int) 17 = ((nrot x 17 15 : Nat) : Int) ∧ rotR (x : Int) 19 = ((nrot x 19 13 : Nat) : Int) := by
  rw [← turn2, ← turn13, ← turn22, ← turn6, ← turn11, ← turn25, ← turn7, ← turn18, ← turn17, ← turn19]
  exact ⟨turn_nat (n := 2) (m := 30) hx (by decide) (by decide) (by decide), turn_nat (n := 13) (m := 19) hx (by decide) (by decide) (by decide), turn_nat (n := 22) (m := 10) hx (by decide) (by decide) (by decide), turn_nat (n := 6) (m := 26) hx (by decide) (by decide) (by decide), turn_nat (n := 11) (m := 21) hx (by decide) (by decide) (by decide), turn_nat (n := 25) (m := 7) hx (by decide) (by decide) (by decide),
    turn_nat (n := 7) (m := 25) hx (by decide) (by decide) (by decide), turn_nat (n := 18) (m := 14) hx (by decide) (by decide) (by decide), turn_nat (n := 17) (m := 15) hx (by decide) (by decide) (by decide), turn_nat (n := 19) (m := 13) hx (by decide) (by decide) (by decide)⟩
theorem sumA_nat {v : Nat → Int} {a : Nat} (h : v 0 = (a : Int)) (ha : B32 a) : sumA v = ((nS0 a : Nat) : Int) := by
  obtain ⟨r2, r13, r22, _⟩ := rotR_nat ha
  rw [sumA, h, r2, r13, r22, xor_nat (rot_lt _ _ ha) (rot_lt _ _ ha), xor_nat (xor_lt (rot_lt _ _ ha) (rot_lt _ _ ha)) (rot_lt _ _ ha)]
  rfl
theorem sumE_nat {v : Nat → Int} {a : Nat} (h : v 4 = (a : Int)) (ha : B32 a) : sumE v = ((nS1 a : Nat) : Int) := by
  obtain ⟨_, _, _, r6, r11, r25, _⟩ := rotR_nat ha
  rw [sumE, h, r6, r11, r25, xor_nat (rot_lt _ _ ha) (rot_lt _ _ ha), xor_nat (xor_lt (rot_lt _ _ ha) (rot_lt _ _ ha)) (rot_lt _ _ ha)]
  rfl
theorem sg0_nat {a : Nat} (ha : B32 a) : sg0 (a : Int) = ((ns0 a : Nat) : Int) := by
  obtain ⟨_, _, _, _, _, _, r7, r18, _⟩ := rotR_nat ha
  rw [sg0, r7, r18, show shrI .u32 (a : Int) 3 = _ from shr32_nat a 3 (by decide), xor_nat (rot_lt _ _ ha) (rot_lt _ _ ha), xor_nat (xor_lt (rot_lt _ _ ha) (rot_lt _ _ ha)) (shr_lt _ ha)]
  rfl
theorem sg1_nat {a : Nat} (ha : B32 a) : sg1 (a : Int) = ((ns1 a : Nat) : Int) := by
  obtain ⟨_, _, _, _, _, _, _, _, r17, r19⟩ := rotR_nat ha
  rw [sg1, r17, r19, show shrI .u32 (a : Int) 10 = _ from shr32_nat a 10 (by decide), xor_nat (rot_lt _ _ ha) (rot_lt _ _ ha), xor_nat (xor_lt (rot_lt _ _ ha) (rot_lt _ _ ha)) (shr_lt _ ha)]
  rfl
theorem chE_nat {v : Nat → Int} {e f g : Nat} (h4 : v 4 = (e : Int)) (h5 : v 5 = (f : Int)) (h6 : v 6 = (g : Int)) (he : B32 e) (hf : B32 f) (hg : B32 g) : chE v = ((nch e f g : Nat) : Int) := by
  have hm : (if IntKind.u32.signed then (-1 : Int) else IntKind.u32.max) = ((4294967295 : Nat) : Int) := by decide
  have h1 : B32 4294967295 := by decide
  rw [chE, h4, h5, h6, hm, and_nat he hf, xor_nat h1 he, and_nat (xor_lt h1 he) hg, xor_nat (and_lt he hf) (and_lt (xor_lt h1 he) hg)]
  rfl
theorem majA_nat {v : Nat → Int} {a b c : Nat} (h0 : v 0 = (a : Int)) (h1 : v 1 = (b : Int)) (h2 : v 2 = (c : Int)) (ha : B32 a) (hb : B32 b) (hc : B32 c) : majA v = ((nmaj a b c : Nat) : Int) := by
  rw [majA, h0, h1, h2, and_nat ha hb, and_nat ha hc, and_nat hb hc, xor_nat (and_lt ha hb) (and_lt ha hc), xor_nat (xor_lt (and_lt ha hb) (and_lt ha hc)) (and_lt hb hc)]
  rfl
structure R8 (v : Nat → Int) (a b c d e f g h : Nat) : Prop where
  (h0 : v 0 = (a : Int)) (h1 : v 1 = (b : Int)) (h2 : v 2 = (c : Int)) (h3 : v 3 = (d : Int)) (h4 : v 4 = (e : Int)) (h5 : v 5 = (f : Int)) (h6 : v 6 = (g : Int)) (h7 : v 7 = (h : Int))
  (l0 : B32 a) (l1 : B32 b) (l2 : B32 c) (l3 : B32 d) (l4 : B32 e) (l5 : B32 f) (l6 : B32 g) (l7 : B32 h)
theorem stT_nat {v : Nat → Int} {a b c d e f g h k w : Nat} (R : R8 v a b c d e f g h) : stT v (k : Int) (w : Int) = ((nT e f g h k w : Nat) : Int) := by
  rw [stT, R.h7, sumE_nat R.h4 R.l4, chE_nat R.h4 R.h5 R.h6 R.l4 R.l5 R.l6, w32_nat, w32_nat, w32_nat, w32_nat]
  congr 1
  show (((((h + nS1 e) % 4294967296 + nch e f g) % 4294967296) + k) % 4294967296 + w) % 4294967296 = (h + nS1 e + nch e f g + k + w) % 4294967296
  omega
theorem step_nat {v : Nat → Int} {a b c d e f g h k w : Nat} (R : R8 v a b c d e f g h) : R8 (stepV v (k : Int) (w : Int)) (Nat.mod (Nat.add (nT e f g h k w) (Nat.add (nS0 a) (nmaj a b c))) 4294967296) a b c (Nat.mod (Nat.add d (nT e f g h k w)) 4294967296) e f g := by
  refine ⟨?_, R.h0, R.h1, R.h2, ?_, R.h4, R.h5, R.h6, mod_lt32 _, R.l0, R.l1, R.l2, mod_lt32 _, R.l4, R.l5, R.l6⟩
  · show w32 (stT v k w) (stU v) = _
    rw [stT_nat R, stU, sumA_nat R.h0 R.l0, majA_nat R.h0 R.h1 R.h2 R.l0 R.l1 R.l2, w32_nat, w32_nat]
    congr 1
    show (nT e f g h k w + (nS0 a + nmaj a b c) % 4294967296) % 4294967296 = (nT e f g h k w + (nS0 a + nmaj a b c)) % 4294967296
    omega
  · show w32 (v 3) (stT v k w) = _
    rw [stT_nat R, R.h3, w32_nat]
    rfl
end Go.Proofs.YtnpkdoggfnlapaaGreatDoor
namespace Go.Proofs.YtnpkdoggfnlapaaGreatDoor
set_option maxRecDepth 100000
open Go.Sx
noncomputable def nrnd {α : Type} (K : Nat → Nat → Nat → Nat → Nat → Nat → Nat → Nat → α) (ks : List Nat) : Nat → Nat → Nat → Nat → Nat → Nat → Nat → Nat → Nat → Nat → Nat → Nat → Nat → Nat → Nat → Nat → Nat → Nat → Nat → Nat → Nat → Nat → Nat → Nat → α :=
  @List.rec Nat (fun _ => Nat → Nat → Nat → Nat → Nat → Nat → Nat → Nat → Nat → Nat → Nat → Nat → Nat → Nat → Nat → Nat → Nat → Nat → Nat → Nat → Nat → Nat → Nat → Nat → α)
    (fun a b c d e f g h _ _ _ _ _ _ _ _ _ _ _ _ _ _ _ _ => K a b c d e f g h)
    (fun k _ ih a b c d e f g h w0 w1 w2 w3 w4 w5 w6 w7 w8 w9 w10 w11 w12 w13 w14 w15 =>
      frc (nT e f g h k w0) fun t => frc (Nat.mod (Nat.add t (Nat.add (nS0 a) (nmaj a b c))) 4294967296) fun a' => frc (Nat.mod (Nat.add d t) 4294967296) fun e' =>
      frc (nmix w0 w1 w9 w14) fun w16 => ih a' a b c e' e f g w1 w2 w3 w4 w5 w6 w7 w8 w9 w10 w11 w12 w13 w14 w15 w16) ks
def ksN : List Nat := [1116352408, 1899447441, 3049323471, 3921009573, 961987163, 1508970993, 2453635748, 2870763221, 3624381080, 310598401, 607225278, 1426881987, 1925078388, 2162078206, 2614888103, 3248222580, 3835390401, 4022224774, 264347078, 604807628, 770255983, 1249150122, 1555081692, 1996064986, 2554220882, 2821834349, 2952996808, 3210313671, 3336571891, 3584528711, 113926993, 338241895, 666307205, 773529912, 1294757372, 1396182291, 1695183700, 1986661051, 2177026350, 2456956037, 2730485921, 2820302411, 3259730800, 3345764771, 3516065817, 3600352804, 4094571909, 275423344, 430227734, 506948616, 659060556, 883997877, 958139571, 1322822218, 1537002063, 1747873779, 1955562222, 2024104815, 2227730452, 2361852424, 2428436474, 2756734187, 3204031479, 3329325298]
noncomputable def nblocks {α : Type} (n : Nat) : List Nat → Nat → Nat → Nat → Nat → Nat → Nat → Nat → Nat → (Nat → Nat → α) → α :=
  @Nat.rec (fun _ => List Nat → Nat → Nat → Nat → Nat → Nat → Nat → Nat → Nat → (Nat → Nat → α) → α)
    (fun _ a b _ _ _ _ _ _ k => k a b)
    (fun _ ih l a b c d e f g h k =>
      frc (l.getD 0 0) fun w0 => frc (l.getD 1 0) fun w1 => frc (l.getD 2 0) fun w2 => frc (l.getD 3 0) fun w3 => frc (l.getD 4 0) fun w4 => frc (l.getD 5 0) fun w5 => frc (l.getD 6 0) fun w6 => frc (l.getD 7 0) fun w7 => frc (l.getD 8 0) fun w8 => frc (l.getD 9 0) fun w9 => frc (l.getD 10 0) fun w10 => frc (l.getD 11 0) fun w11 => frc (l.getD 12 0) fun w12 => frc (l.getD 13 0) fun w13 => frc (l.getD 14 0) fun w14 => frc (l.getD 15 0) fun w15 =>
      nrnd (fun a' b' c' d' e' f' g' h' => frc (nadd a a') fun a => frc (nadd b b') fun b => frc (nadd c c') fun c => frc (nadd d d') fun d => frc (nadd e e') fun e => frc (nadd f f') fun f => frc (nadd g g') fun g => frc (nadd h h') fun h => ih (l.drop 16) a b c d e f g h k)
        ksN a b c d e f g h w0 w1 w2 w3 w4 w5 w6 w7 w8 w9 w10 w11 w12 w13 w14 w15) n
theorem sched_val (b : Nat → UInt8) {n : Nat} : ∀ N, n < N → sched b N n = if n < 16 then word b n else mix (sched b n) n
  | 0, h => absurd h (Nat.not_lt_zero _)
  | N + 1, h => by
    rw [sched_step]
    by_cases e : n = N
    · subst e; rw [if_pos rfl]
    · rw [if_neg e]; exact sched_val b N (by omega)
theorem sched_same (b : Nat → UInt8) {n N N' : Nat} (h : n < N) (h' : n < N') : sched b N n = sched b N' n := by rw [sched_val b N h, sched_val b N' h']
theorem nmix_eq {w0 w1 w9 w14 : Nat} (h1 : B32 w1) (h14 : B32 w14) : w32 (w32 (w32 (w0 : Int) (w9 : Int)) (sg0 (w1 : Int))) (sg1 (w14 : Int)) = ((nmix w0 w1 w9 w14 : Nat) : Int) := by
  rw [sg0_nat h1, sg1_nat h14, w32_nat, w32_nat, w32_nat]
  congr 1
  show (((w0 + w9) % 4294967296 + ns0 w1) % 4294967296 + ns1 w14) % 4294967296 = (w0 + w9 + ns0 w1 + ns1 w14) % 4294967296
  omega
theorem sched_next (b : Nat → UInt8) {n w0 w1 w9 w14 : Nat} (hn : n + 16 < 64) (e0 : sched b 64 n = (w0 : Int)) (e1 : sched b 64 (n + 1) = (w1 : Int)) (e9 : sched b 64 (n + 9) = (w9 : Int)) (e14 : sched b 64 (n + 14) = (w14 : Int)) (h1 : B32 w1) (h14 : B32 w14) : sched b 64 (n + 16) = ((nmix w0 w1 w9 w14 : Nat) : Int) := by
  rw [sched_val b 64 hn, if_neg (by omega), mix, sched_same b (N' := 64) (n := n + 16 - 16) (by omega) (by omega), sched_same b (N' := 64) (n := n + 16 - 7) (by omega) (by omega), sched_same b (N' := 64) (n := n + 16 - 15) (by omega) (by omega), sched_same b (N' := 64) (n := n + 16 - 2) (by omega) (by omega),
    show n + 16 - 16 = n by omega, show n + 16 - 7 = n + 9 by omega, show n + 16 - 15 = n + 1 by omega, show n + 16 - 2 = n + 14 by omega, e0, e1, e9, e14, nmix_eq h1 h14]
theorem stepW_nat : ∀ n, n < 64 → stepW n = ((ksN.getD n 0 : Nat) : Int) := by decide
theorem ksN_drop {n : Nat} (h : n < 64) : ksN.drop n = ksN.getD n 0 :: ksN.drop (n + 1) := by
  have hl : ksN.length = 64 := rfl
  rw [List.drop_eq_getElem_cons (by omega), List.getD_eq_getElem?_getD, List.getElem?_eq_getElem (by omega)]; rfl
def WOk (b : Nat → UInt8) (n : Nat) (ws : Nat → Nat) : Prop := ∀ i, i < 16 → n + i < 64 → sched b 64 (n + i) = (ws i : Int) ∧ B32 (ws i)
theorem nrnd_eq {α : Type} (h0 : Nat → Int) (b : Nat → UInt8) (K : Nat → Nat → Nat → Nat → Nat → Nat → Nat → Nat → α) : ∀ m n, n + m = 64 → ∀ (a b' c d e f g h : Nat), R8 (stepsV h0 b n) a b' c d e f g h → ∀ ws, WOk b n ws →
    ∃ a2 b2 c2 d2 e2 f2 g2 h2, R8 (stepsV h0 b 64) a2 b2 c2 d2 e2 f2 g2 h2 ∧ nrnd K (ksN.drop n) a b' c d e f g h (ws 0) (ws 1) (ws 2) (ws 3) (ws 4) (ws 5) (ws 6) (ws 7) (ws 8) (ws 9) (ws 10) (ws 11) (ws 12) (ws 13) (ws 14) (ws 15) = K a2 b2 c2 d2 e2 f2 g2 h2
  | 0, n, hn, a, b', c, d, e, f, g, h, R, ws, W => by
    obtain rfl : n = 64 := by omega
    exact ⟨a, b', c, d, e, f, g, h, R, rfl⟩
  | m + 1, n, hn, a, b', c, d, e, f, g, h, R, ws, W => by
    rw [ksN_drop (by omega)]
    have hw := W 0 (by decide) (by omega)
    have hR := step_nat (k := ksN.getD n 0) (w := ws 0) R
    rw [← stepW_nat n (by omega), ← (show sched b 64 n = (ws 0 : Int) from hw.1)] at hR
    let ws' : Nat → Nat := fun i => if i < 15 then ws (i + 1) else nmix (ws 0) (ws 1) (ws 9) (ws 14)
    have hW : WOk b (n + 1) ws' := by
      intro i hi hni
      by_cases h15 : i < 15
      · have := W (i + 1) (by omega) (by omega)
        rw [show n + 1 + i = n + (i + 1) by omega]
        simp only [ws', if_pos h15]
        exact this
      · obtain rfl : i = 15 := by omega
        have q0 := W 0 (by decide) (by omega)
        have q1 := W 1 (by decide) (by omega)
        have q9 := W 9 (by decide) (by omega)
        have q14 := W 14 (by decide) (by omega)
        refine ⟨?_, mod_lt32 _⟩
        rw [show n + 1 + 15 = n + 16 by omega]
        exact sched_next b (by omega) q0.1 q1.1 q9.1 q14.1 q1.2 q14.2
    obtain ⟨a2, b2, c2, d2, e2, f2, g2, h2, R2, e2'⟩ := nrnd_eq h0 b K m (n + 1) (by omega) _ _ _ _ _ _ _ _ hR ws' hW
    refine ⟨a2, b2, c2, d2, e2, f2, g2, h2, R2, ?_⟩
    rw [← e2']
    show (frc (nT e f g h (ksN.getD n 0) (ws 0)) fun t => frc (Nat.mod (Nat.add t (Nat.add (nS0 a) (nmaj a b' c))) 4294967296) fun a' => frc (Nat.mod (Nat.add d t) 4294967296) fun e' =>
      frc (nmix (ws 0) (ws 1) (ws 9) (ws 14)) fun w16 => nrnd K (ksN.drop (n + 1)) a' a b' c e' e f g (ws 1) (ws 2) (ws 3) (ws 4) (ws 5) (ws 6) (ws 7) (ws 8) (ws 9) (ws 10) (ws 11) (ws 12) (ws 13) (ws 14) (ws 15) w16) = _
    rw [frc_eq, frc_eq, frc_eq, frc_eq]
    rfl
end Go.Proofs.YtnpkdoggfnlapaaGreatDoor
