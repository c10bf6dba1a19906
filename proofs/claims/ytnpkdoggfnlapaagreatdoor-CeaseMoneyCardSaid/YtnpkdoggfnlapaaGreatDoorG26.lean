/- Parts Pd Pn Pq Zm Zo. -/
import Derived.Test.YtnpkdoggfnlapaaGreatDoorG25
import Derived.Test.YtnpkdoggfnlapaaGreatDoorG17
import Derived.Test.YtnpkdoggfnlapaaGreatDoorG23
import Derived.Test.YtnpkdoggfnlapaaGreatDoorG12
import Derived.Test.YtnpkdoggfnlapaaGreatDoorG24
set_option linter.unusedSimpArgs false
set_option linter.unusedVariables false
namespace Go.Proofs.YtnpkdoggfnlapaaGreatDoor
set_option maxRecDepth 100000
open Go.Sx
def keysND (l : List (Pt × Coin)) : Prop := (l.map (·.1)).Nodup
theorem mput_perm : ∀ {l : List (Pt × Coin)} {k : Pt} {v : Coin}, keysND l → (mput l k v).Perm ((k, v) :: l.filter (fun x => x.1 ≠ k))
  | [], k, v, _ => List.Perm.refl _
  | x :: r, k, v, h => by
    simp only [keysND, List.map_cons, List.nodup_cons] at h
    simp only [mput]
    by_cases hk : x.1 = k
    · have hr : r.filter (fun x => x.1 ≠ k) = r := by
        rw [List.filter_eq_self]
        intro y hy
        have : y.1 ≠ k := fun e => h.1 (by rw [hk, ← e]; exact List.mem_map.2 ⟨y, hy, rfl⟩)
        simpa using this
      rw [if_pos hk, List.filter_cons_of_neg (by simpa using hk), hr]
    · rw [if_neg hk, List.filter_cons_of_pos (by simpa using hk)]
      exact ((mput_perm h.2).cons x).trans (List.Perm.swap _ _ _)
theorem nd_filter {l : List (Pt × Coin)} {k : Pt} (h : keysND l) : keysND (l.filter (fun x => x.1 ≠ k)) := by
  have := (List.filter_sublist (p := fun x : Pt × Coin => decide (x.1 ≠ k)) (l := l)).map (·.1)
  exact h.sublist this
theorem nd_mput {l : List (Pt × Coin)} {k : Pt} {v : Coin} (h : keysND l) : keysND (mput l k v) := by
  have hp := (mput_perm (k := k) (v := v) h).map (·.1)
  unfold keysND
  rw [hp.nodup_iff, List.map_cons, List.nodup_cons]
  refine ⟨fun hm => ?_, nd_filter h⟩
  obtain ⟨y, hy, he⟩ := List.mem_map.1 hm
  have := (List.mem_filter.1 hy).2
  simp [he] at this
theorem mget_key : ∀ {l : List (Pt × Coin)} {k : Pt}, (mget l k).isSome = false → ∀ x ∈ l, x.1 ≠ k
  | [], k, _, x, hx => by cases hx
  | y :: r, k, h, x, hx => by
    simp only [mget] at h
    by_cases hk : y.1 = k
    · rw [if_pos hk] at h; cases h
    · rw [if_neg hk] at h
      rcases List.mem_cons.1 hx with rfl | hx
      · exact hk
      · exact mget_key h x hx
theorem wrap_add (a b : Int) : IntKind.i64.wrap (IntKind.i64.wrap a + b) = IntKind.i64.wrap (a + b) := by
  have e1 : IntKind.i64.bits = 64 := rfl
  have e2 : IntKind.i64.signed = true := rfl
  simp only [IntKind.wrap, e1, e2, Bool.true_and]
  split <;> split <;> split <;> rename_i h h' h'' <;> simp only [ge_iff_le, decide_eq_true_eq] at h h' h'' <;> omega
def sumC : List (Pt × Coin) → Int
  | [] => 0
  | x :: r => x.2.amt.toInt + sumC r
theorem sumC_perm {l l' : List (Pt × Coin)} (h : l.Perm l') : sumC l = sumC l' := by
  induction h with
  | nil => rfl
  | cons x _ ih => simp only [sumC, ih]
  | swap x y l => simp only [sumC]; omega
  | trans _ _ h1 h2 => rw [h1, h2]
theorem mget_of_mem : ∀ {l : List (Pt × Coin)} {k : Pt} {v : Coin}, keysND l → (k, v) ∈ l → mget l k = some v
  | x :: r, k, v, hn, h => by
    simp only [keysND, List.map_cons, List.nodup_cons] at hn
    simp only [mget]
    rcases List.mem_cons.1 h with rfl | h
    · simp
    · have : x.1 ≠ k := fun e => hn.1 (e ▸ List.mem_map.2 ⟨_, h, rfl⟩)
      rw [if_neg this]
      exact mget_of_mem hn.2 h
structure Inv (S : USet) : Prop where
  nd : keysND S.coins
  tot : S.total = IntKind.i64.wrap (sumC S.coins)
theorem Inv.empty : Inv USet.empty := ⟨List.nodup_nil, rfl⟩
theorem okB_has {S : USet} {p : Pt} {c : Coin} (h : S.okB p c = true) : S.has p = false := by
  simp only [USet.okB, Bool.and_eq_true, Bool.not_eq_true'] at h
  exact h.1.2
theorem Inv.add {S : USet} (h : Inv S) (p : Pt) (c : Coin) : Inv (S.add p c) := by
  unfold USet.add
  split
  · rename_i hok
    have hh := mget_key (okB_has hok)
    refine ⟨nd_mput h.nd, ?_⟩
    simp only [USet.add1, USet.put, h.tot, wrap_add]
    congr 1
    have hf : S.coins.filter (fun x => x.1 ≠ p) = S.coins := by
      rw [List.filter_eq_self]
      intro y hy
      simpa using hh y hy
    have := sumC_perm (mput_perm (k := p) (v := c) h.nd)
    rw [hf] at this
    rw [this]
    simp only [sumC]
    omega
  · exact h
section
variable {S : USet} {R : RC} {zs : List (Pt × Coin)}
structure TwinZ (S : USet) (R : RC) (zs : List (Pt × Coin)) : Prop where
  P : R.P = zs.map (·.1)
  C : R.C = zs.map (·.2)
  perm : zs.Perm S.coins
  srt : zs.Pairwise fun a b => ltPt a.1 b.1 = true
  inv : Inv S
  amt : ∀ x ∈ zs, 1 ≤ x.2.amt.toInt
  most : sumC zs ≤ 1125899906842624
def Twin (S : USet) (R : RC) : Prop := ∃ zs, TwinZ S R zs
theorem sumC_append (a b : List (Pt × Coin)) : sumC (a ++ b) = sumC a + sumC b := by
  induction a with
  | nil => simp [sumC]
  | cons x r ih => simp only [List.cons_append, sumC, ih]; omega
theorem sumC_pos {l : List (Pt × Coin)} (h : ∀ x ∈ l, 1 ≤ x.2.amt.toInt) : 0 ≤ sumC l := by
  induction l with
  | nil => simp [sumC]
  | cons x r ih =>
    have := h x (by simp)
    have := ih (fun y hy => h y (by simp [hy]))
    simp only [sumC]; omega
theorem ltPt_trans {a b c : Pt} (h1 : ltPt a b = true) (h2 : ltPt b c = true) : ltPt a c = true := ltPt_swo.trans a b c h1 h2
theorem ltPt_irr (a : Pt) : ltPt a a = false := ltPt_swo.irrefl a
theorem posIn_split {p : Pt} : ∀ {zs : List (Pt × Coin)}, zs.Pairwise (fun a b => ltPt a.1 b.1 = true) → posIn p (zs.map (·.1)) ≤ zs.length ∧ (∀ x ∈ zs.take (posIn p (zs.map (·.1))), ltPt x.1 p = true) ∧ (∀ x ∈ zs.drop (posIn p (zs.map (·.1))), ltPt x.1 p = false)
  | [], _ => by simp [posIn]
  | z :: r, h => by
    rw [List.pairwise_cons] at h
    obtain ⟨h1, h2, h3⟩ := posIn_split (p := p) h.2
    simp only [List.map_cons, posIn]
    by_cases hz : ltPt z.1 p = true
    · rw [if_pos hz]
      refine ⟨by simp; omega, fun x hx => ?_, fun x hx => ?_⟩
      · rw [List.take_succ_cons] at hx
        rcases List.mem_cons.1 hx with rfl | hx
        · exact hz
        · exact h2 x hx
      · rw [List.drop_succ_cons] at hx
        exact h3 x hx
    · rw [if_neg hz]
      have hz' : ltPt z.1 p = false := by simpa using hz
      refine ⟨by simp, fun x hx => by simp at hx, fun x hx => ?_⟩
      rw [List.drop_zero] at hx
      rcases List.mem_cons.1 hx with rfl | hx
      · exact hz'
      · cases hy : ltPt x.1 p with
        | false => rfl
        | true => have := ltPt_trans (h.1 x hx) hy; rw [hz'] at this; cases this
theorem TwinZ.len (h : TwinZ S R zs) : R.P.length = zs.length ∧ R.C.length = zs.length := by rw [h.P, h.C]; simp
theorem TwinZ.nd (h : TwinZ S R zs) : keysND zs := by
  have := h.perm.map (fun x : Pt × Coin => x.1)
  exact this.nodup_iff.2 h.inv.nd
theorem TwinZ.at (h : TwinZ S R zs) {i : Nat} (hi : i < zs.length) : R.P.getD i default = (zs[i]).1 ∧ R.C.getD i default = (zs[i]).2 ∧ mget S.coins (zs[i]).1 = some (zs[i]).2 := by
  refine ⟨?_, ?_, mget_of_mem h.inv.nd (h.perm.mem_iff.1 (List.getElem_mem hi))⟩
  · rw [h.P]; simp [List.getD_eq_getElem?_getD, hi]
  · rw [h.C]; simp [List.getD_eq_getElem?_getD, hi]
theorem TwinZ.total (h : TwinZ S R zs) : S.total = sumC zs ∧ 0 ≤ sumC zs := by
  have h0 := sumC_pos h.amt
  have := h.most
  refine ⟨?_, h0⟩
  rw [h.inv.tot, ← sumC_perm h.perm]
  exact wrap_i64 (by omega) (by omega)
theorem TwinZ.sumN (h : TwinZ S R zs) : ∀ i, i ≤ zs.length → R.sumN i = IntKind.i64.wrap (sumC (zs.take i))
  | 0, _ => by simp [RC.sumN, sumC]; rfl
  | i + 1, hi => by
    have hil : i < zs.length := by omega
    rw [RC.sumN, h.sumN i (by omega), wrap_add, (h.at hil).2.1, List.take_succ_eq_append_getElem hil, sumC_append]
    simp [sumC]
theorem TwinZ.sum (h : TwinZ S R zs) : R.sumN R.C.length = S.total := by
  rw [h.len.2, h.sumN _ (Nat.le_refl _), List.take_length, h.inv.tot, sumC_perm h.perm]
theorem mget_some_iff : ∀ {l : List (Pt × Coin)} {k : Pt}, (mget l k).isSome = true ↔ k ∈ l.map (·.1)
  | [], _ => by simp [mget]
  | x :: r, k => by
    rw [mget]
    by_cases e : x.1 = k
    · rw [if_pos e]; simp [e]
    · rw [if_neg e, mget_some_iff, List.map_cons, List.mem_cons]
      exact ⟨Or.inr, fun h => h.resolve_left fun h => e h.symm⟩
theorem TwinZ.has_iff (h : TwinZ S R zs) (p : Pt) : S.has p = true ↔ p ∈ zs.map (·.1) := by
  rw [USet.has, mget_some_iff]
  exact (h.perm.map (·.1)).mem_iff.symm
theorem TwinZ.pos (h : TwinZ S R zs) (p : Pt) : R.pos p = posIn p (zs.map (·.1)) := by rw [RC.pos, h.P]
theorem TwinZ.isAt_iff (h : TwinZ S R zs) (p : Pt) : R.isAt p = true ↔ p ∈ zs.map (·.1) := by
  obtain ⟨h1, h2, h3⟩ := posIn_split (p := p) h.srt
  have hp := h.pos p
  unfold RC.isAt
  simp only [Bool.and_eq_true, decide_eq_true_eq, hp, h.len.1]
  constructor
  · rintro ⟨hl, he⟩
    rw [(h.at hl).1] at he
    exact List.mem_map.2 ⟨_, List.getElem_mem hl, he⟩
  · intro hm
    obtain ⟨x, hx, rfl⟩ := List.mem_map.1 hm
    have hx' : x ∈ zs.drop (posIn x.1 (zs.map (·.1))) := by
      rw [← List.take_append_drop (posIn x.1 (zs.map (·.1))) zs] at hx
      rcases List.mem_append.1 hx with hx | hx
      · have := h2 x hx; rw [ltPt_irr] at this; cases this
      · exact hx
    have hl : posIn x.1 (zs.map (·.1)) < zs.length := by
      have := List.length_pos_of_mem hx'
      rw [List.length_drop] at this; omega
    refine ⟨hl, ?_⟩
    rw [(h.at hl).1]
    have hd := List.drop_eq_getElem_cons hl
    rw [hd] at hx'
    rcases List.mem_cons.1 hx' with e | hx'
    · rw [← e]
    · have hs := h.srt.drop (i := posIn x.1 (zs.map (·.1)))
      rw [hd, List.pairwise_cons] at hs
      have h4 := hs.1 x hx'
      have h5 := h3 _ (by rw [hd]; exact List.mem_cons_self ..)
      rw [h5] at h4; cases h4
theorem TwinZ.isAt (h : TwinZ S R zs) (p : Pt) : R.isAt p = S.has p := by
  rw [Bool.eq_iff_iff, h.isAt_iff, h.has_iff]
theorem TwinZ.okB (h : TwinZ S R zs) (p : Pt) (c : Coin) : R.okB p c = S.okB p c := by
  have ht := h.total
  have hm := h.most
  rw [Bool.eq_iff_iff]
  simp only [RC.okB, USet.okB, h.isAt, h.sum, bothB, mayB, Bool.and_eq_true, Bool.not_eq_true', decide_eq_false_iff_not, decide_eq_true_eq, ht.1]
  have hc := c.amt.toInt_lt
  by_cases ha : 1 ≤ c.amt.toInt ∧ c.amt.toInt ≤ 1125899906842624
  · rw [wrap_i64 (n := 1125899906842624 - c.amt.toInt) (by omega) (by omega), wrap_i64 (n := sumC zs + c.amt.toInt) (by omega) (by omega)]
    constructor
    · rintro ⟨⟨⟨⟨⟨a1, a2⟩, a3⟩, a4⟩, a5⟩, a6⟩; exact ⟨⟨⟨⟨by omega, by omega⟩, by omega⟩, a1⟩, ⟨⟨⟨by omega, by omega⟩, ⟨by omega, by omega⟩⟩, ⟨by omega, by omega⟩⟩⟩
    · rintro ⟨⟨⟨⟨a1, a2⟩, a3⟩, a4⟩, ⟨⟨⟨a5, a6⟩, ⟨a7, a8⟩⟩, ⟨a9, a10⟩⟩⟩; exact ⟨⟨⟨⟨⟨a4, by omega⟩, by omega⟩, by omega⟩, by omega⟩, by omega⟩
  · constructor
    · rintro ⟨⟨⟨⟨⟨a1, a2⟩, a3⟩, a4⟩, a5⟩, a6⟩; omega
    · rintro ⟨⟨⟨⟨a1, a2⟩, a3⟩, a4⟩, ⟨⟨⟨a5, a6⟩, ⟨a7, a8⟩⟩, ⟨a9, a10⟩⟩⟩; omega
theorem TwinZ.get (h : TwinZ S R zs) (p : Pt) : R.get p = S.get p := by
  unfold RC.get
  by_cases hp : R.isAt p = true
  · rw [if_pos hp]
    have hp' := hp
    simp only [RC.isAt, Bool.and_eq_true, decide_eq_true_eq] at hp'
    have hl : R.pos p < zs.length := by rw [← h.len.1]; exact hp'.1
    have ha := h.at hl
    rw [hp'.2] at ha
    have h2 := ha.2.2
    rw [← ha.1] at h2
    unfold USet.get
    rw [h2, ha.2.1]
    rfl
  · rw [if_neg hp]
    rw [h.isAt] at hp
    unfold USet.has at hp
    unfold USet.get
    cases hm : mget S.coins p with
    | none => rfl
    | some v => rw [hm] at hp; exact absurd rfl hp
theorem TwinZ.add1 (h : TwinZ S R zs) {p : Pt} {c : Coin} (hok : S.okB p c = true) : Twin (S.add1 p c) (R.add1 p c) := by
  obtain ⟨h1, h2, h3⟩ := posIn_split (p := p) h.srt
  have hhas := okB_has hok
  have hnot : p ∉ zs.map (·.1) := fun hm => by rw [(h.has_iff p).2 hm] at hhas; cases hhas
  have hokR := hok
  rw [← h.okB] at hokR
  simp only [RC.okB, h.sum, Bool.and_eq_true, Bool.not_eq_true', decide_eq_false_iff_not, h.total.1] at hokR
  obtain ⟨⟨⟨⟨⟨_, _⟩, _⟩, a4⟩, a5⟩, a6⟩ := hokR
  have h0 := h.total.2
  have hm := h.most
  rw [wrap_i64 (by omega) (by omega)] at a6
  have hzp : (zs.take (R.pos p) ++ (p, c) :: zs.drop (R.pos p)).Perm ((p, c) :: zs) := by
    refine List.perm_middle.trans ?_
    rw [List.take_append_drop]
  have hinv : Inv (S.add1 p c) := by
    have := h.inv.add p c
    unfold USet.add at this
    rwa [if_pos hok] at this
  refine ⟨zs.take (R.pos p) ++ (p, c) :: zs.drop (R.pos p), ?_, ?_, ?_, ?_, hinv, ?_, ?_⟩
  · simp only [RC.add1, h.P, List.map_append, List.map_cons, List.map_take, List.map_drop]
  · simp only [RC.add1, h.C, List.map_append, List.map_cons, List.map_take, List.map_drop]
  · have hc : (S.add1 p c).coins = S.coins ++ [(p, c)] := by
      simp only [USet.add1, USet.put]
      exact mput_none (mget_key hhas)
    rw [hc]
    exact (hzp.trans (h.perm.cons _)).trans (List.perm_append_singleton _ _).symm
  · rw [h.pos]
    have hsplit := h.srt
    rw [← List.take_append_drop (posIn p (zs.map (·.1))) zs, List.pairwise_append] at hsplit
    obtain ⟨s1, s2, s3⟩ := hsplit
    rw [List.pairwise_append]
    refine ⟨s1, ?_, fun x hx y hy => ?_⟩
    · rw [List.pairwise_cons]
      refine ⟨fun y hy => ?_, s2⟩
      have hy1 := h3 y hy
      have hne : y.1 ≠ p := fun e => hnot (List.mem_map.2 ⟨y, List.mem_of_mem_drop hy, e⟩)
      show ltPt p y.1 = true
      cases hl : ltPt p y.1 with
      | true => rfl
      | false => exact absurd (ltPt_total _ _ hl hy1).symm hne
    · rcases List.mem_cons.1 hy with rfl | hy
      · exact h2 x hx
      · exact s3 x hx y hy
  · intro x hx
    rcases List.mem_cons.1 (hzp.mem_iff.1 hx) with rfl | hx
    · show 1 ≤ c.amt.toInt; omega
    · exact h.amt x hx
  · rw [sumC_perm hzp]
    simp only [sumC]
    omega
theorem Twin.empty : Twin USet.empty RC.empty := ⟨[], rfl, rfl, List.Perm.refl _, List.Pairwise.nil, Inv.empty, fun _ h => (by cases h), by decide⟩
theorem Twin.add {S : USet} {R : RC} (h : Twin S R) (p : Pt) (c : Coin) : Twin (S.add p c) (R.add p c) := by
  obtain ⟨zs, h⟩ := h
  unfold USet.add RC.add
  rw [h.okB]
  split
  · rename_i hok; exact h.add1 hok
  · exact ⟨zs, h⟩
end
end Go.Proofs.YtnpkdoggfnlapaaGreatDoor
namespace Go.Proofs.YtnpkdoggfnlapaaGreatDoor
set_option maxRecDepth 100000
open Go.Sx
set_option maxHeartbeats 2000000 in
theorem rcGet_spec (R : RC) (p : Pt) (hPC : R.P.length = R.C.length) (hlen : R.P.length < 1000000) {M : Mem} {c0 d : Nat} (hM : M.get c0 = some (.abs (rcP R))) (hd : Nat.beq d c0 = false) : CallSpec Tryz.prog 114 [.one (.ptr c0 0 0 0), p.cv] M d { v := .tup [(R.get p).cv, .one (.raw (.bool (R.isAt p)))], upd := [(c0, .abs (rcP R))], wr := [c0] } [c0] := by
  refine spec_obj Tryz.T_ok Tryz.func114 rfl [p.cv] (.tup [(R.get p).cv, .one (.raw (.bool (R.isAt p)))]) rfl rfl hM hd (fun C _ => ?_)
  refine RC.opens R 0 rfl ?_
  have hpl : R.pos p ≤ R.P.length := posIn_le p R.P
  (refine Tri.cut 3 Tryz.mixed Tryz.T_ok ?_; ((conv => arg 5; whnf); repeat (refine xS ?_; conv => arg 5; whnf)))
  (apply wP; exact (call_op rfl (entersB_of Tryz.func159 (by kernel_rfl)) rfl (rcAt_spec R p hlen rfl rfl rfl rfl rfl)); ((conv => arg 5; whnf); repeat (refine xS ?_; conv => arg 5; whnf)))
  refine wC (fun h1 => ?_) (fun h1 => ?_)
  · (refine wGo ?_; ((conv => arg 5; whnf); repeat (refine xS ?_; conv => arg 5; whnf)))
    simp only [Bool.not_eq_true'] at h1
    refine wD <| cutR (RC.ends R (.inr rfl) rfl rfl rfl rfl rfl ?_ rfl rfl rfl (Nat.le_refl _) (Nat.le_refl _) (fun _ _ => rfl) (fun _ _ => rfl))
    simp only [RC.get, h1]; rfl
  (refine wGo ?_; ((conv => arg 5; whnf); repeat (refine xS ?_; conv => arg 5; whnf)))
  simp only [Bool.not_eq_false'] at h1
  have hlt : R.pos p < R.P.length := by
    simp only [RC.isAt, Bool.and_eq_true, decide_eq_true_eq] at h1
    exact h1.1
  have hltC : R.pos p < R.C.length := by omega
  refine wD <| cutG <| Tri.of Tryz.mixed Tryz.T_ok ?_
  (refine wBegin ?_; ((conv => arg 5; whnf); repeat (refine xS ?_; conv => arg 5; whnf)))
  (repeat (refine wN ?_ ?_; exact (by (try simp only [ww] at *); omega); refine wGo ?_; ((conv => arg 5; whnf); repeat (refine xS ?_; conv => arg 5; whnf))))
  refine wD (RC.ends R (.inr rfl) rfl rfl rfl rfl rfl ?_ rfl rfl rfl (Nat.le_refl _) (Nat.le_refl _) (fun _ _ => rfl) (fun _ _ => rfl))
  have h0 : 0 + ((R.pos p : Nat) : Int).toNat = R.pos p := by omega
  simp only [RC.get, h1, if_true, h0]; rfl
def AlikeR (S : USet) (R : RC) : Prop := ∀ p, R.isAt p = S.has p ∧ R.get p = S.get p
def routsGo (id : H8) (h : Int64) (base : Bool) : RC → Nat → List OutM → RC × Int
  | R, _, [] => (R, 0)
  | R, i, o :: r => if R.isAt (ptAt id i) = true then (R, 6) else if R.okB (ptAt id i) ⟨o.to, o.amt, h, base⟩ = true then routsGo id h base (R.add1 (ptAt id i) ⟨o.to, o.amt, h, base⟩) (i + 1) r else (R, 5)
theorem posIn_all_le (p : Pt) (l : List Pt) : posIn p l ≤ l.length := posIn_le p l
theorem radd1_len {R : RC} (hPC : R.P.length = R.C.length) (p : Pt) (c : Coin) : (R.add1 p c).P.length = R.P.length + 1 ∧ (R.add1 p c).P.length = (R.add1 p c).C.length := by
  have h := posIn_all_le p R.P
  have h' : R.pos p ≤ R.P.length := h
  simp only [RC.add1, List.length_append, List.length_take, List.length_drop, List.length_cons]
  omega
structure ROutsI (id : H8) (h : Int64) (base : Bool) (R : RC) (l : List OutM) where
  i : Nat
  W : RC
  le : i ≤ l.length
  go : routsGo id h base R 0 l = routsGo id h base W i (l.drop i)
  len : W.P.length = R.P.length + i
  same : W.P.length = W.C.length
def roSt (id : H8) (h : Int64) (base : Bool) (l : List OutM) (W : RC) (i : Nat) : St :=
  ⟨[some (XV.sv (.ptr 0 0 0 0)), none, some (XV.sv (.slc 2 9 0 l.length)), some (XV.int .i64 h.toInt), some (XV.bool base), none, some (XV.sv (.ptr 5 0 0 0)), none, none, none, none, some (XV.int .i64 i)] ++ List.replicate 30 none, [(0, .abs (rcP W)), (2, .ro 9 l.length (outsF l)), (5, .cells 29 (id.cells.map .raw))], 6⟩
set_option maxHeartbeats 2000000 in
theorem raddouts_can (R : RC) (id : H8) (l : List OutM) (h : Int64) (base : Bool) (hl : l.length ≤ 1000) (hPC : R.P.length = R.C.length) (hR : R.P.length < 900000) :
    Acts Tryz.prog 58 (.abs (rcP R)) (.abs (rcP (routsGo id h base R 0 l).1)) [.plain id.x, .row 9 l.length (outsF l), .plain (.one (.raw (.int .i64 h.toInt))), .plain (.one (.raw (.bool base)))] [] (XV.int .i64 (routsGo id h base R 0 l).2) := by
  refine Acts.of Tryz.T_ok Tryz.func58 rfl _ _ _ _ _ rfl rfl rfl (fun C hC => ?_)
  (replace hC : C.n0 = 5 := hC; change Tri _ _ _ ⟨_, _, 5⟩ _)
  (refine Tri.cut 1 Tryz.mixed Tryz.T_ok ?_; ((conv => arg 5; whnf); repeat (refine xS ?_; conv => arg 5; whnf)))
  refine wD <| cutG <| Tri.seq ?_
  (refine Tri.cut 1 Tryz.mixed Tryz.T_ok ?_; ((conv => arg 5; whnf); repeat (refine xS ?_; conv => arg 5; whnf)))
  refine wD <| cutG <| Tri.block ?_
  refine Tri.loop (α := ROutsI id h base R l) (fun x => roSt id h base l x.W x.i) (fun x => l.length - x.i) ⟨0, R, Nat.zero_le _, rfl, rfl, hPC⟩ ?_ ?_
  · unfold roSt
    ((try dsimp only); refine Ent.renC [0, 1, 2, 3, 4, 5] hC ?_ ?_ <;> repeat' (first | exact trivial | exact rfl | exact ⟨_, rfl, rfl, rfl, Nat.le_refl _, fun _ _ => rfl⟩ | exact ⟨_, rfl, rfl, rfl, fun _ _ => rfl⟩ | exact ⟨_, rfl, rfl, rfl⟩ | exact ⟨_, rfl, rfl⟩ | refine ⟨_, rfl, rfl, rfl, by omega, fun k hk => ?_⟩ | refine ⟨?_, ?_⟩ | fail))
  rintro ⟨i, W, hi, hg, hst, hWC⟩
  unfold roSt
  dsimp only
  (refine Tri.cut 1 Tryz.mixed Tryz.T_ok ?_; ((conv => arg 5; whnf); repeat (refine xS ?_; conv => arg 5; whnf)))
  refine wC (fun h1 => ?_) (fun h1 => ?_)
  · (refine wGo ?_; ((conv => arg 5; whnf); repeat (refine xS ?_; conv => arg 5; whnf)))
    have h1' : i < l.length := (by (try simp only [ww] at *); omega)
    have hw : IntKind.i64.wrap ((i : Int) + 1) = ((i + 1 : Nat) : Int) := (by (try simp only [ww] at *); omega)
    have e64 := ofNat_toInt (i := i) (by omega)
    rw [dropD_cons h1', routsGo] at hg
    refine wD <| cutG <| Tri.seq <| Tri.block <| Tri.of Tryz.mixed Tryz.T_ok ?_
    (refine wBegin ?_; ((conv => arg 5; whnf); repeat (refine xS ?_; conv => arg 5; whnf)))
    rw [e64]
    (apply wP; exact (call_op rfl (entersB_of Tryz.func114 (by kernel_rfl)) rfl (rcGet_spec W (ptAt id i) hWC (by omega) rfl rfl)); ((conv => arg 5; whnf); repeat (refine xS ?_; conv => arg 5; whnf)))
    refine wC (fun h2 => ?_) (fun h2 => ?_)
    · rw [if_pos h2] at hg
      (refine wGo ?_; ((conv => arg 5; whnf); repeat (refine xS ?_; conv => arg 5; whnf)))
      refine wD <| blockR <| cutR <| loopR <| blockR <| cutR ?_
      rw [hg]
      exact Ends.shutN (.inr rfl) (Ent.refl _) rfl rfl rfl
    · rw [if_neg (by rw [h2]; simp)] at hg
      (refine wGo ?_; ((conv => arg 5; whnf); repeat (refine xS ?_; conv => arg 5; whnf)))
      rw [← e64]
      (repeat (refine wN ?_ ?_; exact (by (try simp only [ww] at *); omega); refine wGo ?_; ((conv => arg 5; whnf); repeat (refine xS ?_; conv => arg 5; whnf))))
      simp only [Nat.zero_add, Int.toNat_natCast]
      rw [e64]
      (apply wP; exact (call_op rfl (entersB_of Tryz.func115 (by kernel_rfl)) rfl (rcAdd_spec W (ptAt id i) ⟨(l.getD i default).to, (l.getD i default).amt, h, base⟩ hWC (by omega) rfl rfl)); ((conv => arg 5; whnf); repeat (refine xS ?_; conv => arg 5; whnf)))
      refine wC (fun h3 => ?_) (fun h3 => ?_)
      · have h3 : W.okB (ptAt id i) ⟨(l.getD i default).to, (l.getD i default).amt, h, base⟩ = false := by simpa using h3
        rw [if_neg (by rw [h3]; simp)] at hg
        (refine wGo ?_; ((conv => arg 5; whnf); repeat (refine xS ?_; conv => arg 5; whnf)))
        refine wD <| blockR <| cutR <| loopR <| blockR <| cutR ?_
        rw [hg, RC.add, if_neg (by rw [h3]; simp)]
        exact Ends.shutN (.inr rfl) (Ent.refl _) rfl rfl rfl
      · have h3 : W.okB (ptAt id i) ⟨(l.getD i default).to, (l.getD i default).amt, h, base⟩ = true := by simpa using h3
        rw [if_pos h3] at hg
        (refine wGo ?_; ((conv => arg 5; whnf); repeat (refine xS ?_; conv => arg 5; whnf)))
        refine wD <| blockN <| cutG <| Tri.of Tryz.mixed Tryz.T_ok ?_
        (refine wBegin ?_; ((conv => arg 5; whnf); repeat (refine xS ?_; conv => arg 5; whnf)))
        have hln := radd1_len hWC (ptAt id i) ⟨(l.getD i default).to, (l.getD i default).amt, h, base⟩
        refine wD <| loopN ⟨⟨i + 1, W.add1 (ptAt id i) ⟨(l.getD i default).to, (l.getD i default).amt, h, base⟩, h1', hg, by omega, hln.2⟩, by dsimp only; omega, ?_⟩
        rw [← e64, hw, RC.add, if_pos h3]
        ((try dsimp only); refine Ent.renC [0, 1, 2, 3, 4, 5] hC ?_ ?_ <;> repeat' (first | exact trivial | exact rfl | exact ⟨_, rfl, rfl, rfl, Nat.le_refl _, fun _ _ => rfl⟩ | exact ⟨_, rfl, rfl, rfl, fun _ _ => rfl⟩ | exact ⟨_, rfl, rfl, rfl⟩ | exact ⟨_, rfl, rfl⟩ | refine ⟨_, rfl, rfl, rfl, by omega, fun k hk => ?_⟩ | refine ⟨?_, ?_⟩ | fail))
  · (refine wGo ?_; ((conv => arg 5; whnf); repeat (refine xS ?_; conv => arg 5; whnf)))
    have h1' : i = l.length := (by (try simp only [ww] at *); omega)
    subst h1'
    rw [List.drop_length, routsGo] at hg
    refine wD <| cutE <| loopX <| blockX <| cutG <| Tri.of Tryz.mixed Tryz.T_ok ?_
    rw [hg]
    (refine wBegin ?_; ((conv => arg 5; whnf); repeat (refine xS ?_; conv => arg 5; whnf)))
    exact wD (Ends.shutN (.inr rfl) (Ent.refl _) rfl rfl rfl)
end Go.Proofs.YtnpkdoggfnlapaaGreatDoor
namespace Go.Proofs.YtnpkdoggfnlapaaGreatDoor
set_option maxRecDepth 100000
open Go.Sx
theorem Twin.look {S : USet} {R : RC} (h : Twin S R) : AlikeR S R := fun p => by
  obtain ⟨zs, hz⟩ := h
  exact ⟨hz.isAt p, hz.get p⟩
theorem Twin.lens {S : USet} {R : RC} (h : Twin S R) : R.P.length = S.coins.length ∧ R.P.length = R.C.length := by
  obtain ⟨zs, hz⟩ := h
  have h1 := hz.len
  have h2 := hz.perm.length_eq
  omega
theorem Twin.okB {S : USet} {R : RC} (h : Twin S R) (p : Pt) (c : Coin) : R.okB p c = S.okB p c := by
  obtain ⟨zs, hz⟩ := h
  exact hz.okB p c
theorem Twin.add1 {S : USet} {R : RC} (h : Twin S R) {p : Pt} {c : Coin} (hok : S.okB p c = true) : Twin (S.add1 p c) (R.add1 p c) := by
  obtain ⟨zs, hz⟩ := h
  exact hz.add1 hok
theorem twin_outs (id : H8) (h : Int64) (base : Bool) : ∀ (l : List OutM) (S : USet) (R : RC) (i : Nat), Twin S R → Twin (outsGo id h base S i l).1 (routsGo id h base R i l).1 ∧ (outsGo id h base S i l).2 = (routsGo id h base R i l).2
  | [], S, R, i, ht => ⟨ht, rfl⟩
  | o :: l, S, R, i, ht => by
    rw [outsGo, routsGo, (ht.look (ptAt id i)).1, ht.okB]
    by_cases h1 : S.has (ptAt id i) = true
    · rw [if_pos h1, if_pos h1]; exact ⟨ht, rfl⟩
    · rw [if_neg h1, if_neg h1]
      by_cases h2 : S.okB (ptAt id i) ⟨o.to, o.amt, h, base⟩ = true
      · rw [if_pos h2, if_pos h2]
        exact twin_outs id h base l _ _ (i + 1) (ht.add1 h2)
      · rw [if_neg h2, if_neg h2]; exact ⟨ht, rfl⟩
end Go.Proofs.YtnpkdoggfnlapaaGreatDoor
namespace Go.Proofs.YtnpkdoggfnlapaaGreatDoor
set_option maxRecDepth 100000
open Go.Sx
def rckSt (L : List SideM) (ad : Nat → Nat → Option Addr × Nat) (c : ClaimM) (k : Nat) : St :=
  ⟨[none, none, none, some (XV.sv (.ptr 4 0 0 0)), none, some (XV.sv (.ptr 5 0 0 0)), some (XV.bool (((L.getD c.side.toNat default).used.take k).any (eqI c.acct))), some (XV.int .i64 k)] ++ List.replicate 64 none,
   [(0, .cells rrS [.slc 2 42 0 L.length]), (2, .vec rrE 42 L.length fun i => fillA 0 (regF L i) (ad i)), (3, .abs (PartsO L.length (regF L) ad)), (4, .cells 46 (c.cells.map .raw)), (5, .cells 109 ((fillA 0 (regF L c.side.toNat) (ad c.side.toNat)).map .raw))], 6⟩
set_option maxHeartbeats 8000000 in
theorem rcheck_can (L : List SideM) (c : ClaimM) (hL : ∀ i, i < L.length → (L.getD i default).Sized) (hl : L.length ≤ 1000) : Acts Tryz.prog 43 (.abs (rReg L)) (.abs (rReg L)) [.plain c.x] [] (XV.int .i64 (checkE L c)) := by
  have hmay := rmayClaim_can c
  refine Acts.of Tryz.T_ok Tryz.func43 rfl _ _ _ _ _ rfl rfl rfl (fun C hC => ?_)
  (replace hC : C.n0 = 2 := hC; change Tri _ _ _ ⟨_, _, 2⟩ _)
  cases hb : claimOK c with
  | false =>
    rw [hb] at hmay
    have he : checkE L c = 4 := by rw [checkE, if_pos hb]
    rw [he]
    refine Tri.of Tryz.mixed Tryz.T_ok ?_
    (refine wBegin ?_; ((conv => arg 5; whnf); repeat (refine xS ?_; conv => arg 5; whnf)))
    (apply wP; exact (call_op rfl (entersB_of Tryz.func86 (by kernel_rfl)) rfl (hmay.at [] ⟨lend_plain rfl, trivial⟩ trivial)); ((conv => arg 5; whnf); repeat (refine xS ?_; conv => arg 5; whnf)))
    exact wD (Ends.shutN (.inr rfl) (Ent.refl _) rfl rfl rfl)
  | true =>
    rw [hb] at hmay
    obtain ⟨⟨s1, s2⟩, ⟨a1, a2⟩, w1, ⟨m1, m2⟩, n1, n2⟩ := claimOK_iff.1 hb
    by_cases h8 : (L.length : Int) ≤ c.side
    · have he : checkE L c = 8 := by rw [checkE, if_neg (by rw [hb]; simp), if_pos h8]
      rw [he]
      rcases L with _ | ⟨y, r⟩
      · refine Reg.opens0 rrS rrE 0 rfl (Tri.of Tryz.mixed Tryz.T_ok ?_)
        (refine wBegin ?_; ((conv => arg 5; whnf); repeat (refine xS ?_; conv => arg 5; whnf)))
        (apply wP; exact (call_op rfl (entersB_of Tryz.func86 (by kernel_rfl)) rfl (hmay.at [] ⟨lend_plain rfl, trivial⟩ trivial)); ((conv => arg 5; whnf); repeat (refine xS ?_; conv => arg 5; whnf)))
        (refine wTd ?_ ?_; (first | refine decide_eq_true ?_ | rw [beq_iff_eq] | rw [bne_iff_ne]); exact (by (try simp only [ww] at *); omega); refine wGo ?_; ((conv => arg 5; whnf); repeat (refine xS ?_; conv => arg 5; whnf)))
        exact wD (Ends.shutN (.inr rfl) (Reg.shuts0 rrS rrE 0 rfl) rfl rfl rfl)
      · refine Reg.opensD rrS rrE (y :: r) 0 (Nat.succ_pos _) rfl (Tri.of Tryz.mixed Tryz.T_ok ?_)
        (refine wBegin ?_; ((conv => arg 5; whnf); repeat (refine xS ?_; conv => arg 5; whnf)))
        (apply wP; exact (call_op rfl (entersB_of Tryz.func86 (by kernel_rfl)) rfl (hmay.at [] ⟨lend_plain rfl, trivial⟩ trivial)); ((conv => arg 5; whnf); repeat (refine xS ?_; conv => arg 5; whnf)))
        (refine wTd ?_ ?_; (first | refine decide_eq_true ?_ | rw [beq_iff_eq] | rw [bne_iff_ne]); exact (by (try simp only [ww] at *); omega); refine wGo ?_; ((conv => arg 5; whnf); repeat (refine xS ?_; conv => arg 5; whnf)))
        exact wD (Ends.shutN (.inr rfl) (Reg.shuts rrS rrE (y :: r) 0 (i1 := 3) (Nat.succ_pos _) rfl rfl rfl rfl rfl (fun _ _ => rfl)) rfl rfl rfl)
    have hi : c.side.toNat < L.length := by omega
    have hz := hL _ hi
    have h0 : 0 < L.length := by omega
    have he : checkE L c = checkX (L.getD c.side.toNat default) c := by rw [checkE, if_neg (by rw [hb]; simp), if_neg h8]
    rw [he]
    refine Reg.opens rrS rrE L 0 h0 rfl (Nat.le_of_ble_eq_true rfl) (fun ad => ?_)
    (refine Tri.cut 5 Tryz.mixed Tryz.T_ok ?_; ((conv => arg 5; whnf); repeat (refine xS ?_; conv => arg 5; whnf)))
    (apply wP; exact (call_op rfl (entersB_of Tryz.func86 (by kernel_rfl)) rfl (hmay.at [] ⟨lend_plain rfl, trivial⟩ trivial)); ((conv => arg 5; whnf); repeat (refine xS ?_; conv => arg 5; whnf)))
    (refine wFd ?_ ?_; (first | refine decide_eq_false ?_ | rw [beq_eq_false_iff_ne] | rw [bne_eq_false_iff_eq]); exact (by (try simp only [ww] at *); omega); refine wGo ?_; ((conv => arg 5; whnf); repeat (refine xS ?_; conv => arg 5; whnf)))
    (repeat (refine wN ?_ ?_; exact (by (try simp only [ww] at *); omega); refine wGo ?_; ((conv => arg 5; whnf); repeat (refine xS ?_; conv => arg 5; whnf))))
    simp only [Nat.zero_add]
    refine wD <| cutG <| Tri.seq <| ?_
    (refine Tri.cut 1 Tryz.mixed Tryz.T_ok ?_; ((conv => arg 5; whnf); repeat (refine xS ?_; conv => arg 5; whnf)))
    refine wD <| cutG <| Tri.block ?_
    obtain ⟨x, hx⟩ : ∃ x, L.getD c.side.toNat default = x := ⟨_, rfl⟩
    refine Tri.loop (α := { k : Nat // k ≤ x.used.length }) (fun k => rckSt L ad c k.1) (fun k => x.used.length - k.1) ⟨0, Nat.zero_le _⟩ ?_ ?_
    · unfold rckSt
      ((try dsimp only); refine Ent.renC [0, 1, 3, 4, 5, 26] hC ?_ ?_ <;> repeat' (first | exact trivial | exact rfl | exact ⟨_, rfl, rfl, rfl, Nat.le_refl _, fun _ _ => rfl⟩ | exact ⟨_, rfl, rfl, rfl, fun _ _ => rfl⟩ | exact ⟨_, rfl, rfl, rfl⟩ | exact ⟨_, rfl, rfl⟩ | refine ⟨_, rfl, rfl, rfl, by omega, fun k hk => ?_⟩ | refine ⟨?_, ?_⟩ | fail))
    have shut := fun {slots : List (Option XV)} {mem : Mem} {nx : Nat} k0 k1 k2 => Reg.shutsO (C := C) (slots := slots) (mem := mem) (nx := nx) rrS rrE L L 0 (i1 := 2) (q := 3) (ad := ad) (m := L.length) (n := L.length) h0 k0 k1 k2 rfl rfl rfl (fun _ _ => rfl) regF_raw
    rintro ⟨k, hk⟩
    dsimp only
    unfold rckSt
    rw [hx]
    (refine Tri.cut 1 Tryz.mixed Tryz.T_ok ?_; ((conv => arg 5; whnf); repeat (refine xS ?_; conv => arg 5; whnf)))
    refine wC (fun h1 => ?_) (fun h1 => ?_)
    · (refine wGo ?_; ((conv => arg 5; whnf); repeat (refine xS ?_; conv => arg 5; whnf)))
      rw [hx] at h1
      have hzu : x.used.length ≤ 1000000 := by rw [← hx]; exact hz.used
      have h1' : k < x.used.length := (by (try simp only [ww] at *); omega)
      have hs := any_take_succ' (p := eqI c.acct) h1'
      have hw : IntKind.i64.wrap ((k : Int) + 1) = ((k + 1 : Nat) : Int) := (by (try simp only [ww] at *); omega)
      refine wD <| cutG <| Tri.seq <| Tri.block <| Tri.of Tryz.mixed Tryz.T_ok ?_
      (refine wBegin ?_; ((conv => arg 5; whnf); repeat (refine xS ?_; conv => arg 5; whnf)))
      refine wC (fun h2 => ?_) (fun h2 => ?_)
      · (refine wGo ?_; ((conv => arg 5; whnf); repeat (refine xS ?_; conv => arg 5; whnf)))
        refine wD <| blockN <| cutG <| Tri.of Tryz.mixed Tryz.T_ok ?_
        (refine wBegin ?_; ((conv => arg 5; whnf); repeat (refine xS ?_; conv => arg 5; whnf)))
        refine wD <| loopN ⟨⟨k + 1, h1'⟩, by dsimp only; omega, ?_⟩
        rw [hw]
        dsimp only
        rw [hs, h2, Bool.true_or]
        ((try dsimp only); refine Ent.renC [0, 1, 2, 3, 4, 5] hC ?_ ?_ <;> repeat' (first | exact trivial | exact rfl | exact ⟨_, rfl, rfl, rfl, Nat.le_refl _, fun _ _ => rfl⟩ | exact ⟨_, rfl, rfl, rfl, fun _ _ => rfl⟩ | exact ⟨_, rfl, rfl, rfl⟩ | exact ⟨_, rfl, rfl⟩ | refine ⟨_, rfl, rfl, rfl, by omega, fun k hk => ?_⟩ | refine ⟨?_, ?_⟩ | fail))
      · (refine wGo ?_; ((conv => arg 5; whnf); repeat (refine xS ?_; conv => arg 5; whnf)))
        (refine wP _ _ (partIndex_op Tryz.T_ok rfl rfl rfl rfl rfl (I := c.side.toNat) (J := 41) (F := regF L) (ad := ad) (q := 3) (f := intsF (L.getD c.side.toNat default).used) rfl rfl rfl hi rfl (by rw [hx]; exact h1')) ?_; ((conv => arg 5; whnf); repeat (refine xS ?_; conv => arg 5; whnf)))
        (refine wP _ _ (partLoad_op Tryz.T_ok rfl rfl (I := c.side.toNat) (J := 41) (F := regF L) (ad := ad) (q := 3) (sz := 1) (f := intsF (L.getD c.side.toNat default).used) rfl rfl hi rfl rfl (by rw [hx]; exact h1') rfl) ?_; ((conv => arg 5; whnf); repeat (refine xS ?_; conv => arg 5; whnf)))
        refine wD <| blockN <| cutG <| Tri.of Tryz.mixed Tryz.T_ok ?_
        (refine wBegin ?_; ((conv => arg 5; whnf); repeat (refine xS ?_; conv => arg 5; whnf)))
        refine wD <| loopN ⟨⟨k + 1, h1'⟩, by dsimp only; omega, ?_⟩
        rw [hw]
        dsimp only
        rw [hs, h2, Bool.false_or, hx]
        have hcomm : (x.used.getD k 0 == c.acct) = eqI c.acct (x.used.getD k default) := by rw [eqI, Bool.eq_iff_iff, beq_iff_eq, beq_iff_eq]; exact eq_comm
        ((try dsimp only); refine Ent.renC [0, 1, 2, 3, 4, 5] hC ?_ ?_ <;> repeat' (first | exact trivial | exact rfl | exact ⟨_, rfl, rfl, rfl, Nat.le_refl _, fun _ _ => rfl⟩ | exact ⟨_, rfl, rfl, rfl, fun _ _ => rfl⟩ | exact ⟨_, rfl, rfl, rfl⟩ | exact ⟨_, rfl, rfl⟩ | refine ⟨_, rfl, rfl, rfl, by omega, fun k hk => ?_⟩ | refine ⟨?_, ?_⟩ | fail))
        exact congrArg (fun b : Bool => some (XV.cv (CV.one (SV.raw (Value.bool b))))) hcomm
    · (refine wGo ?_; ((conv => arg 5; whnf); repeat (refine xS ?_; conv => arg 5; whnf)))
      rw [hx] at h1
      have hzu : x.used.length ≤ 1000000 := by rw [← hx]; exact hz.used
      have h1' : k = x.used.length := (by (try simp only [ww] at *); omega)
      subst h1'
      rw [List.take_length, anyI_mem]
      refine wD <| cutE <| loopX <| blockX <| cutG <| Tri.of Tryz.mixed Tryz.T_ok ?_
      (refine wBegin ?_; ((conv => arg 5; whnf); repeat (refine xS ?_; conv => arg 5; whnf)))
      rw [hx]
      refine wC (fun h1 => ?_) (fun h1 => ?_)
      · have h1' : x.ceased = false := by simpa using h1
        (refine wGo ?_; ((conv => arg 5; whnf); repeat (refine xS ?_; conv => arg 5; whnf)))
        exact wD (Ends.shutN (.inr rfl) (shut rfl rfl rfl) rfl rfl (by rw [checkX, if_pos h1']))
      have h1' : x.ceased = true := by simpa using h1
      (refine wGo ?_; ((conv => arg 5; whnf); repeat (refine xS ?_; conv => arg 5; whnf)))
      refine wC (fun h2 => ?_) (fun h2 => ?_)
      · have h2' : c.acct ∈ x.used := of_decide_eq_true h2
        (refine wGo ?_; ((conv => arg 5; whnf); repeat (refine xS ?_; conv => arg 5; whnf)))
        exact wD (Ends.shutN (.inr rfl) (shut rfl rfl rfl) rfl rfl (by rw [checkX, if_neg (by rw [h1']; simp), if_pos h2']))
      have h2' : c.acct ∉ x.used := of_decide_eq_false h2
      (refine wGo ?_; ((conv => arg 5; whnf); repeat (refine xS ?_; conv => arg 5; whnf)))
      (apply wP; exact (call_op rfl (entersB_of Tryz.func88 (by kernel_rfl)) rfl ((leafR_can c.acct c.st ⟨⟨a1, a2⟩, w1, ⟨by omega, by omega⟩, ⟨n1, n2⟩⟩).at [] ⟨lend_plain rfl, lend_plain rfl, trivial⟩ trivial)); ((conv => arg 5; whnf); repeat (refine xS ?_; conv => arg 5; whnf)))
      have hsc := rchk_can x.root (leafA c.acct c.st) c.acct.toNat (by omega) c.proof
      rw [Int.toNat_of_nonneg a1, ← hx] at hsc
      (apply wP; exact (call_op rfl (entersB_of Tryz.func87 (by kernel_rfl)) rfl (hsc.at [] ⟨lend_plain rfl, lend_plain rfl, lend_plain rfl, lend_plain rfl, trivial⟩ trivial)); ((conv => arg 5; whnf); repeat (refine xS ?_; conv => arg 5; whnf)))
      rw [hx]
      have hpf : decide (upS (leafA c.acct c.st) c.acct.toNat c.proof 16 = x.root) = proofOK x.root c := rfl
      rw [hpf]
      refine wC (fun h3 => ?_) (fun h3 => ?_)
      · have h3' : proofOK x.root c = false := by simpa using h3
        (refine wGo ?_; ((conv => arg 5; whnf); repeat (refine xS ?_; conv => arg 5; whnf)))
        exact wD (Ends.shutN (.inr rfl) (shut rfl rfl rfl) rfl rfl (by rw [checkX, if_neg (by rw [h1']; simp), if_neg h2', if_pos h3']))
      have h3' : proofOK x.root c = true := by simpa using h3
      (refine wGo ?_; ((conv => arg 5; whnf); repeat (refine xS ?_; conv => arg 5; whnf)))
      rw [hx]
      refine wC (fun h4 => ?_) (fun h4 => ?_)
      · have h4' : x.bal < c.st.amt := of_decide_eq_true h4
        (refine wGo ?_; ((conv => arg 5; whnf); repeat (refine xS ?_; conv => arg 5; whnf)))
        exact wD (Ends.shutN (.inr rfl) (shut rfl rfl rfl) rfl rfl (by rw [checkX, if_neg (by rw [h1']; simp), if_neg h2', if_neg (by rw [h3']; simp), if_pos h4']))
      have h4' : ¬ x.bal < c.st.amt := of_decide_eq_false h4
      (refine wGo ?_; ((conv => arg 5; whnf); repeat (refine xS ?_; conv => arg 5; whnf)))
      exact wD (Ends.shutN (.inr rfl) (shut rfl rfl rfl) rfl rfl (by rw [checkX, if_neg (by rw [h1']; simp), if_neg h2', if_neg (by rw [h3']; simp), if_neg h4']))
end Go.Proofs.YtnpkdoggfnlapaaGreatDoor
namespace Go.Proofs.YtnpkdoggfnlapaaGreatDoor
set_option maxRecDepth 100000
open Go.Sx
theorem insU_all : ∀ {l : List Int} {a : Int}, (∀ y ∈ l, y < a) → insU l a = l ++ [a]
  | [], _, _ => rfl
  | x :: r, a, h => by rw [insU, if_pos (h x (by simp)), insU_all fun y hy => h y (by simp [hy])]; rfl
theorem insU_mid : ∀ {l : List Int} {a y : Int}, (∀ z ∈ l, z < a) → ¬ y < a → insU (l ++ [y]) a = l ++ [a] ++ [y]
  | [], a, y, _, h => by show insU [y] a = _; rw [insU, if_neg h]; rfl
  | x :: r, a, y, h1, h => by show insU (x :: (r ++ [y])) a = _; rw [insU, if_pos (h1 x (by simp)), insU_mid (fun z hz => h1 z (by simp [hz])) h]; rfl
theorem insU_app : ∀ {l r : List Int} {a : Int}, (∃ y ∈ l, ¬ y < a) → insU (l ++ r) a = insU l a ++ r
  | [], _, _, h => by obtain ⟨_, h, _⟩ := h; cases h
  | x :: l, r, a, h => by
    show insU (x :: (l ++ r)) a = _
    rw [insU, insU]
    by_cases hx : x < a
    · rw [if_pos hx, if_pos hx, insU_app (l := l) (r := r) (a := a) ?_]; · rfl
      obtain ⟨y, hy, h2⟩ := h
      rcases List.mem_cons.1 hy with rfl | hy
      · exact absurd hx h2
      · exact ⟨y, hy, h2⟩
    · rw [if_neg hx, if_neg hx]; rfl
def ltB (a y : Int) : Bool := decide (a < y)
def doneU (l : List Int) (a : Int) (k : Nat) : Bool := (l.take k).any (ltB a)
def bldU (l : List Int) (a : Int) (k : Nat) : List Int := if doneU l a k = true then insU (l.take k) a else l.take k
theorem take_snocD {l : List Int} {k : Nat} (hk : k < l.length) : l.take (k + 1) = l.take k ++ [l.getD k 0] := by
  rw [List.take_add_one, List.getElem?_eq_getElem hk, List.getD_eq_getElem?_getD, List.getElem?_eq_getElem hk]; rfl
theorem doneU_succ {l : List Int} {a : Int} {k : Nat} (hk : k < l.length) : doneU l a (k + 1) = (doneU l a k || ltB a (l.getD k 0)) := by
  rw [doneU, take_snocD hk, List.any_append]; simp [doneU]
theorem below {l : List Int} {a : Int} {k : Nat} (h : doneU l a k = false) (ha : a ∉ l) : ∀ y ∈ l.take k, y < a := fun y hy => by
  have h1 := List.any_eq_false.1 h y hy
  have h2 : y ≠ a := fun e => ha (e ▸ List.mem_of_mem_take hy)
  simp only [ltB, decide_eq_true_eq] at h1
  omega
theorem bldU_yes {l : List Int} {a : Int} {k : Nat} (hk : k < l.length) (h : doneU l a k = true) : bldU l a (k + 1) = bldU l a k ++ [l.getD k 0] := by
  obtain ⟨y, hy, h2⟩ := List.any_eq_true.1 h
  simp only [ltB, decide_eq_true_eq] at h2
  rw [bldU, doneU_succ hk, h, Bool.true_or, if_pos rfl, bldU, if_pos h, take_snocD hk, insU_app ⟨y, hy, by omega⟩]
theorem bldU_now {l : List Int} {a : Int} {k : Nat} (hk : k < l.length) (ha : a ∉ l) (h : doneU l a k = false) (hy : a < l.getD k 0) : bldU l a (k + 1) = bldU l a k ++ [a] ++ [l.getD k 0] := by
  rw [bldU, doneU_succ hk, h, ltB, decide_eq_true hy, if_pos (by rfl), bldU, if_neg (by rw [h]; simp), take_snocD hk, insU_mid (below h ha) (by omega)]
theorem bldU_no {l : List Int} {a : Int} {k : Nat} (hk : k < l.length) (h : doneU l a k = false) (hy : ¬ a < l.getD k 0) : bldU l a (k + 1) = bldU l a k ++ [l.getD k 0] := by
  rw [bldU, doneU_succ hk, h, ltB, decide_eq_false hy, if_neg (by simp), bldU, if_neg (by rw [h]; simp), take_snocD hk]
theorem bldU_end {l : List Int} {a : Int} (ha : a ∉ l) : insU l a = if doneU l a l.length = true then bldU l a l.length else bldU l a l.length ++ [a] := by
  by_cases h : doneU l a l.length = true
  · rw [if_pos h, bldU, if_pos h, List.take_length]
  · have h' : doneU l a l.length = false := by simpa using h
    have hb := below h' ha
    rw [List.take_length] at hb
    rw [if_neg h, bldU, if_neg h, List.take_length, insU_all hb]
theorem bldU_len (l : List Int) (a : Int) (k : Nat) (hk : k ≤ l.length) : (bldU l a k).length ≤ k + 1 ∧ k ≤ (bldU l a k).length := by
  have : (l.take k).length = k := by rw [List.length_take]; omega
  rw [bldU]
  split
  · rw [insU_len]; omega
  · omega
theorem join_ints {l : List Int} {a : Int} {f g : Nat → List Value} {n : Nat} (hn : n = l.length) (hf : ∀ i, i < l.length → f i = intsF l i) (hg : g 0 = [.int .i64 a]) {i : Nat} (hi : i < n + 1) : joinF f n g i = intsF (l ++ [a]) i := by
  subst hn
  by_cases h : i < l.length
  · have e : Nat.blt i l.length = true := by rw [nblt]; exact decide_eq_true h
    simp only [joinF, e, cond_true]
    rw [hf i h, intsF, intsF, List.getD_eq_getElem?_getD, List.getD_eq_getElem?_getD, List.getElem?_append_left h]
  · have e : Nat.blt i l.length = false := by rw [nblt]; exact decide_eq_false h
    obtain rfl : i = l.length := by omega
    simp only [joinF, e, cond_false]
    rw [Nat.sub_self, hg, intsF, List.getD_eq_getElem?_getD, List.getElem?_append_right (Nat.le_refl _), Nat.sub_self]; rfl
def rtakeE (L : List SideM) (R : RC) (c : ClaimM) (h : Int64) : (List SideM × RC) × Int :=
  if checkE L c = 0 then
    if (routsGo (claimID c) h false R 0 [claimPay c]).2 = 0 then ((L.set c.side.toNat (takeX (L.getD c.side.toNat default) c), (routsGo (claimID c) h false R 0 [claimPay c]).1), 0)
    else ((L, (routsGo (claimID c) h false R 0 [claimPay c]).1), (routsGo (claimID c) h false R 0 [claimPay c]).2)
  else ((L, R), checkE L c)
theorem twin_take {S : USet} {R : RC} (h : Twin S R) (L : List SideM) (c : ClaimM) (H : Int64) : (rtakeE L R c H).1.1 = (takeE L S c H).1.1 ∧ (rtakeE L R c H).2 = (takeE L S c H).2 ∧ Twin (takeE L S c H).1.2 (rtakeE L R c H).1.2 := by
  obtain ⟨h1, h2⟩ := twin_outs (claimID c) H false [claimPay c] S R 0 h
  rw [takeE, rtakeE, ← h2]
  by_cases h3 : checkE L c = 0
  · rw [if_pos h3, if_pos h3]
    by_cases h4 : (outsGo (claimID c) H false S 0 [claimPay c]).2 = 0
    · rw [if_pos h4, if_pos h4]; exact ⟨rfl, rfl, h1⟩
    · rw [if_neg h4, if_neg h4]; exact ⟨rfl, rfl, h1⟩
  · rw [if_neg h3, if_neg h3]; exact ⟨rfl, rfl, h⟩
end Go.Proofs.YtnpkdoggfnlapaaGreatDoor
