/- Parts Sn So Sp Sq Sr Ss. -/
import Derived.Test.YtdeodhahkjgfiaaDoorG11
import Derived.Test.YtdeodhahkjgfiaaDoorG08
import Derived.Test.YtdeodhahkjgfiaaDoorG09
import Derived.Test.YtdeodhahkjgfiaaDoorG05
import Derived.LaidMore
import Derived.Lay
import Derived.LaidHandle
import Derived.LaidLaws
import Derived.MakeChecks
import Derived.Stop.Joined
import Derived.Test.YtdeodhahkjgfiaaDoorRows
import Derived.Test.YtdeodhahkjgfiaaDoorTie
import Derived.Test.YtdeodhahkjgfiaaDoorCards
set_option linter.unusedSimpArgs false
set_option linter.unusedVariables false
namespace Go.Proofs.YtdeodhahkjgfiaaDoor
set_option maxRecDepth 100000
open Go.Sx Go.RowKit
theorem fine_clean {c : ChR} : ∀ x ∈ [verbL c.kd, Lib.itoa c.who, Lib.itoa c.dst, Lib.itoa c.side, Lib.itoa c.n, Lib.itoa c.m, fltL c.work, datL c.data], ∀ y ∈ x, y ≠ 10 ∧ y ≠ 32 := by
  intro x hx y hy
  simp only [List.mem_cons, List.not_mem_nil, or_false] at hx
  rcases hx with rfl | rfl | rfl | rfl | rfl | rfl | rfl | rfl
  · unfold verbL at hy
    split at hy
    · rename_i h
      have := of_decide_eq_true h
      exact (words_have (c.kd.toNat - 1) (by omega)).2.2 y hy
    · cases hy
  · exact itoa_clean _ y hy
  · exact itoa_clean _ y hy
  · exact itoa_clean _ y hy
  · exact itoa_clean _ y hy
  · exact itoa_clean _ y hy
  · exact fltL_clean _ y hy
  · exact datL_clean _ y hy
def lineB (c : ChR) : List UInt8 := Lib.join [verbL c.kd, Lib.itoa c.who, Lib.itoa c.dst, Lib.itoa c.side, Lib.itoa c.n, Lib.itoa c.m, fltL c.work, datL c.data] [32]
theorem lineR_eq (c : ChR) : lineR c = lineB c ++ [10] := by
  simp [lineR, lineB, Lib.join]
theorem join_mem {c y : UInt8} : ∀ {l : List (List UInt8)}, y ∈ Lib.join l [c] → y = c ∨ ∃ p ∈ l, y ∈ p
  | [], h => by simp [Lib.join] at h
  | x :: r, h => by
    rw [Lib.join_cons, List.mem_append] at h
    rcases h with h | h
    · exact .inr ⟨x, by simp, h⟩
    · simp only [Lib.joinTail, List.mem_flatten, List.mem_map] at h
      obtain ⟨q, ⟨a, ha, rfl⟩, hq⟩ := h
      rcases List.mem_append.1 hq with hq | hq
      · exact .inl (List.mem_singleton.1 hq)
      · exact .inr ⟨a, by simp [ha], hq⟩
theorem lineB_clean (c : ChR) : ∀ y ∈ lineB c, y ≠ 10 := by
  intro y hy
  rcases join_mem hy with rfl | ⟨p, hp, hy⟩
  · decide
  · exact (fine_clean p hp y hy).1
theorem lineB_cut (c : ChR) : cutAt 32 (lineB c) = [verbL c.kd, Lib.itoa c.who, Lib.itoa c.dst, Lib.itoa c.side, Lib.itoa c.n, Lib.itoa c.m, fltL c.work, datL c.data] :=
  cutAt_join_of (by simp) fun p hp x hx => (fine_clean p hp x hx).2
theorem words_do : ∀ i, i < 14 → doN (wordsL.getD i []) 14 = i + 1 := by decide
theorem lineB_good {c : ChR} (h : c.Fine) (hv : verbB c.kd = true) : chB (lineB c) = true := by
  have hk := of_decide_eq_true hv
  have e : ∀ i, fld (lineB c) i = [verbL c.kd, Lib.itoa c.who, Lib.itoa c.dst, Lib.itoa c.side, Lib.itoa c.n, Lib.itoa c.m, fltL c.work, datL c.data].getD i [] := fun i => by rw [fld, lineB_cut]
  have hdo : doN (verbL c.kd) 14 = c.kd.toNat := by
    rw [verbL, if_pos hv, words_do _ (by omega)]; omega
  rw [chB, lineB_cut]
  simp only [okN, e]
  simp only [List.getD_cons_zero, List.getD_cons_succ, hdo, (num_itoa _ h.who.1 h.who.2).2, (num_itoa _ h.dst.1 h.dst.2).2, (num_itoa _ h.side.1 h.side.2).2, (num_itoa _ h.n.1 h.n.2).2, (num_itoa _ h.m.1 h.m.2).2, (flt_back _ h.work).2, (dat_back c.data).2, Bool.and_true]
  rw [decide_eq_true (show 0 < c.kd.toNat by omega)]
  rfl
def linesT (L : List (List UInt8)) : List UInt8 := (L.map fun p => p ++ [10]).flatten
theorem linesT_app (L M : List (List UInt8)) : linesT (L ++ M) = linesT L ++ linesT M := by simp [linesT]
theorem cut_lines : ∀ (L : List (List UInt8)), (∀ p ∈ L, ∀ y ∈ p, y ≠ 10) → cutAt 10 (linesT L) = L ++ [[]]
  | [], _ => rfl
  | p :: L, h => by
    have ih := cut_lines L (fun q hq => h q (by simp [hq]))
    rw [show linesT (p :: L) = p ++ 10 :: linesT L by simp [linesT], cutAt_append (h p (by simp)), ih]
    rfl
section
variable {L : List (List UInt8)} (h : ∀ p ∈ L, ∀ y ∈ p, y ≠ 10)
include h
theorem lines_n : lineN (linesT L) = L.length := by rw [lineN, cut_lines L h]; simp
theorem lines_at {i : Nat} (hi : i < L.length) : lineAt (linesT L) i = L.getD i [] := by
  rw [lineAt, cut_lines L h, List.getD_eq_getElem?_getD, List.getElem?_append_left hi, List.getD_eq_getElem?_getD]
theorem lines_rest : restB (linesT L) = false := by
  rw [restB, lineAt, lines_n h, cut_lines L h, List.getD_eq_getElem?_getD, List.getElem?_append_right (Nat.le_refl _), Nat.sub_self]
  rfl
theorem lines_long (hs : (linesT L).length ≤ 262144) (hn : L.length ≤ 1000) : longB (linesT L) = false := by
  rw [longB, knowN, if_neg (by rw [lines_rest h]; decide), lines_n h, decide_eq_false (by omega), decide_eq_false (by omega)]
  rfl
theorem lines_good (hs : (linesT L).length ≤ 262144) (hn : L.length ≤ 1000) (hg : ∀ p ∈ L, chB p = true) : parN (linesT L) = L.length ∧ parA (linesT L) = 0 ∧ parE (linesT L) = 0 := by
  have := parGood (lines_long h hs hn) (fun k hk => by
    rw [lines_n h] at hk
    rw [lines_at h hk, List.getD_eq_getElem?_getD, List.getElem?_eq_getElem hk]
    exact hg _ (List.getElem_mem hk)) (lines_rest h)
  rw [lines_n h] at this
  exact this
theorem lines_bad (hs : (linesT L).length ≤ 262144) (hn : L.length ≤ 1000) {k : Nat} (hk : k < L.length) (hg : ∀ i, i < k → chB (L.getD i []) = true) (hb : chB (L.getD k []) = false) : parN (linesT L) = 0 ∧ parA (linesT L) = k + 1 ∧ parE (linesT L) = 21 :=
  parBad (lines_long h hs hn) (fun i hi => by rw [lines_at h (by omega)]; exact hg i hi) (by rw [lines_n h]; exact hk) (by rw [lines_at h hk]; exact hb)
end
theorem prAt_text (l : List ChR) : ∀ {j : Nat} {o : List UInt8}, j ≤ l.length → prAt l j = some (o, false) → o = linesT ((l.take j).map lineB) ∧ (∀ c ∈ l.take j, verbB c.kd = true) ∧ l.length ≤ 1000 ∧ o.length ≤ 262144
  | 0, o, _, h => by
    simp only [prAt, Option.some.injEq, Prod.mk.injEq, decide_eq_false_iff_not] at h
    rw [← h.1]
    exact ⟨rfl, by simp, by omega, Nat.zero_le _⟩
  | j + 1, o, hj, h => by
    rw [prAt, Option.bind_eq_some_iff] at h
    obtain ⟨⟨o', b'⟩, h1, h2⟩ := h
    unfold prStep at h2
    split at h2
    · rename_i hv
      split at h2
      · simp at h2
      · rename_i hb
        simp only [not_or, Bool.not_eq_true] at hb
        obtain ⟨hb, _⟩ := hb
        subst hb
        obtain ⟨e1, e2, e3, e4⟩ := prAt_text l (by omega) h1
        simp only [Option.some.injEq, Prod.mk.injEq, decide_eq_false_iff_not] at h2
        have ex : l.getD j default = l[j]'(by omega) := by rw [List.getD_eq_getElem?_getD, List.getElem?_eq_getElem (by omega)]; rfl
        rw [ex] at h2 hv
        rw [← h2.1, List.take_succ_eq_append_getElem (show j < l.length by omega), List.map_append, linesT_app, ← e1, lineR_eq]
        refine ⟨by simp [linesT], fun c hc => ?_, e3, ?_⟩
        · rcases List.mem_append.1 hc with hc | hc
          · exact e2 c hc
          · rw [List.mem_singleton.1 hc]; exact hv
        · rw [lineR_eq] at h2
          have := h2.2
          rw [List.length_append]
          omega
    · simp at h2
theorem pr_text {l : List ChR} (h : prE l = 0) : prT l = linesT (l.map lineB) ∧ (∀ c ∈ l, verbB c.kd = true) ∧ (prT l).length ≤ 262144 := by
  have key : ∃ o, prAt l l.length = some (o, false) := by
    unfold prE at h
    split at h
    · rename_i o e; exact ⟨o, e⟩
    · cases h
    · cases h
  obtain ⟨o, e⟩ := key
  obtain ⟨e1, e2, _, e4⟩ := prAt_text l (Nat.le_refl _) e
  rw [List.take_length] at e1 e2
  have e3 : prT l = o := by rw [prT, e]
  exact ⟨e3.trans e1, e2, by rw [e3]; exact e4⟩
def badL : List (List UInt8) := [[109, 105, 110, 101], [], [109, 105, 110, 101, 32, 49, 32, 48, 32, 48, 32, 48, 32, 48, 32, 110, 97, 110, 32, 46, 32, 53], [112, 97, 121, 32, 49, 32, 50, 32, 51, 32, 52, 32, 53, 32, 48, 32, 46], [102, 111, 114, 107, 32, 43, 49, 32, 48, 32, 48, 32, 48, 32, 48, 32, 110, 97, 110, 32, 46], [32, 109, 105, 110, 101, 32, 49, 32, 48, 32, 48, 32, 48, 32, 48, 32, 110, 97, 110, 32, 46], [98, 101, 110, 100, 32, 48, 32, 48, 32, 48, 32, 48, 32, 48, 32, 110, 97, 110, 32, 49], [116, 97, 107, 101, 32, 48, 32, 48, 32, 48, 32, 48, 32, 48, 32, 78, 97, 78, 32, 46], [100, 114, 111, 112, 32, 48, 32, 48, 32, 48, 32, 48, 32, 48, 48, 32, 110, 97, 110, 32, 46], [99, 111, 112, 121, 32, 48, 32, 48, 32, 48, 32, 48, 32, 48, 32, 51, 70, 70, 48, 48, 48, 48, 48, 48, 48, 48, 48, 48, 48, 48, 48, 32, 46]]
theorem badL_clean : ∀ p ∈ badL, ∀ y ∈ p, y ≠ 10 := by decide
theorem badL_len : ∀ i, i < 10 → (badL.getD i []).length ≤ 40 := by decide
theorem ch_len {s : List UInt8} (h : (cutAt 32 s).length ≠ 8) : chB s = false := by rw [chB, decide_eq_false h]; rfl
theorem ch_flt {s : List UInt8} (h : fltB (fld s 6) = false) : chB s = false := by rw [chB, h, Bool.and_false, Bool.false_and, Bool.and_false]
theorem ch_dat {s : List UInt8} (h : datB (fld s 7) = false) : chB s = false := by rw [chB, h, Bool.and_false, Bool.and_false]
theorem ok_num {s : List UInt8} {i j : Nat} (h : numB (fld s (i + 1)) = false) (hj : i < j) : okN s j = false := by
  induction j with
  | zero => omega
  | succ j ih =>
    rw [okN]
    by_cases e : i = j
    · subst e; rw [h, Bool.and_false]
    · rw [ih (by omega), Bool.false_and]
theorem ch_num {s : List UInt8} (i : Nat) (hi : i < 5) (h : numB (fld s (i + 1)) = false) : chB s = false := by rw [chB, ok_num h hi, Bool.false_and, Bool.false_and, Bool.and_false]
theorem num_plus : numB [43, 49] = false := by
  cases h : numB [43, 49] with
  | false => rfl
  | true =>
    have e := numB_itoa h
    unfold Lib.itoa at e
    split at e
    · exact absurd (List.cons.inj e).1 (by decide)
    · have := dec_all (numN [43, 49]).toNat 43 (by rw [e]; simp)
      exact absurd this.1 (by decide)
theorem num_zeros : numB [48, 48] = false := by
  cases h : numB [48, 48] with
  | false => rfl
  | true =>
    have e := numB_itoa h
    rw [show numN [48, 48] = 0 by decide, show Lib.itoa 0 = Lib.decDigits 0 from rfl, dec_last 0 (by decide)] at e
    exact absurd e (by decide)
theorem badL_bad : ∀ i, i < 10 → chB (badL.getD i []) = false
  | 0, _ => ch_len (by decide)
  | 1, _ => ch_len (by decide)
  | 2, _ => ch_len (by decide)
  | 3, _ => ch_flt (by decide)
  | 4, _ => ch_num 0 (by decide) (by rw [show fld (badL.getD 4 []) (0 + 1) = [43, 49] by decide]; exact num_plus)
  | 5, _ => ch_len (by decide)
  | 6, _ => ch_dat (by decide)
  | 7, _ => ch_flt (by decide)
  | 8, _ => ch_num 4 (by decide) (by rw [show fld (badL.getD 8 []) (4 + 1) = [48, 48] by decide]; exact num_zeros)
  | 9, _ => ch_flt (by decide)
  | n + 10, h => by omega
set_option maxRecDepth 100000
open Go.Sx Go.RowKit
theorem itoa_0 : Lib.itoa 0 = [48] := by rw [show Lib.itoa 0 = Lib.decDigits 0 from rfl, dec_last 0 (by decide)]; rfl
theorem itoa_1 : Lib.itoa 1 = [49] := by rw [show Lib.itoa 1 = Lib.decDigits 1 from rfl, dec_last 1 (by decide)]; rfl
theorem itoa_m2 : Lib.itoa (-2) = [45, 50] := by rw [show Lib.itoa (-2) = 45 :: Lib.decDigits 2 from rfl, dec_last 2 (by decide)]; rfl
def awC : ChR := ⟨1, 1, 0, 0, -2, 0, 4607182418800017408, []⟩
theorem awC_fine : awC.Fine := ⟨⟨by decide, by decide⟩, ⟨by decide, by decide⟩, ⟨by decide, by decide⟩, ⟨by decide, by decide⟩, ⟨by decide, by decide⟩, by decide, Nat.zero_le _⟩
def awB : List UInt8 := [109, 105, 110, 101, 32, 49, 32, 48, 32, 48, 32, 45, 50, 32, 48, 32, 51, 102, 102, 48, 48, 48, 48, 48, 48, 48, 48, 48, 48, 48, 48, 48, 32, 46]
def awT : List UInt8 := [109, 105, 110, 101, 32, 49, 32, 48, 32, 48, 32, 45, 50, 32, 48, 32, 51, 102, 102, 48, 48, 48, 48, 48, 48, 48, 48, 48, 48, 48, 48, 48, 32, 46, 10]
theorem awB_eq : lineB awC = awB := by
  rw [lineB, awC]
  simp only [itoa_0, itoa_1, itoa_m2]
  rw [show fltL 4607182418800017408 = [51, 102, 102, 48, 48, 48, 48, 48, 48, 48, 48, 48, 48, 48, 48, 48] by decide +kernel]
  decide
theorem awB_clean : ∀ p ∈ [awB], ∀ y ∈ p, y ≠ 10 := by decide
theorem aw_par : parN awT = 1 ∧ parA awT = 0 ∧ parE awT = 0 :=
  lines_good awB_clean (by decide) (by decide) fun p hp => by rw [List.mem_singleton.1 hp, ← awB_eq]; exact lineB_good awC_fine rfl
theorem aw_at : lineAt awT 0 = awB := by decide
theorem aw_work : fltN (fld awB 6) = 4607182418800017408 := by decide +kernel
theorem aw_eq : fEq 4607182418800017408 4607182418800017408 = true := by decide +kernel
def awS : St := ⟨[some (XV.bool false), some (XV.sv (.slc 3 8 0 1)), some (XV.int .i64 0), some (XV.int .i64 0)] ++ List.replicate 44 none, [(3, .abs (DeepP 45 8 1 fun i => chAC (lineAt awT i)))], 4⟩
set_option maxHeartbeats 1000000 in
theorem awake26 {t1 t2 : TypeId} {p1 p2 : Value} : Reads Tryd.prog 7 [] (lawsP t1 p1 t2 p2) (XV.bool true) := by
  refine Reads.of Tryd.T_ok Tryd.func7 rfl _ _ _ rfl rfl (fun C hC => ?_)
  (replace hC : C.n0 = 3 := hC; change Tri _ _ _ ⟨_, _, 3⟩ _)
  have hp := parse_can awT (by decide) (t1 := t1) (t2 := t2) (p1 := p1) (p2 := p2)
  rw [parX_made aw_par.1, parC_made aw_par.1, aw_par.2.1, aw_par.2.2] at hp
  refine xK 2 ?_
  refine xC rfl Tryd.func10 rfl (hp.at [0, 1, 2] (lends_raws [strV awT]) ⟨lend_ext (c := 0) rfl rfl, lend_ext (c := 1) rfl rfl, lend_ext (c := 2) rfl rfl, trivial⟩) ?_
  refine wD <| cutG <| Tri.ent (S' := awS) ?_ (Tri.openDeep (c := 3) rfl fun ad => xI ?_)
  · ((try dsimp only); exact xE [0, 1, 2, 4] hC)
  clear hp
  (refine xB ?_)
  have hw : fEq (fltN (fld (lineAt awT 0) 6)) 4607182418800017408 = true := by rw [aw_at, aw_work, aw_eq]
  exact wD <| Ends.plain (.inr rfl) rfl (congrArg XV.bool hw)
set_option maxRecDepth 100000
open Go.Sx Go.RowKit
theorem getD_drop (l : List ChR) (K i : Nat) : (l.drop K).getD i default = l.getD (K + i) default := by
  rw [List.getD_eq_getElem?_getD, List.getD_eq_getElem?_getD, List.getElem?_drop]
theorem getD_take (l : List ChR) {K i : Nat} (h : i < K) : (l.take K).getD i default = l.getD i default := by
  rw [List.getD_eq_getElem?_getD, List.getD_eq_getElem?_getD, List.getElem?_take, if_pos h]
def badT : List (List UInt8) := badL.map fun p => p ++ [10]
theorem badT_at (d : Nat) (h : d < 10) : badT.getD d [] = badL.getD d [] ++ [10] := by
  rw [badT, List.getD_eq_getElem?_getD, List.getElem?_map, List.getElem?_eq_getElem (show d < badL.length from h), List.getD_eq_getElem?_getD, List.getElem?_eq_getElem (show d < badL.length from h)]
  rfl
theorem badL_all (d : Nat) (h : d < 10) : ∀ y ∈ badL.getD d [], y ≠ 10 := by
  rw [List.getD_eq_getElem?_getD, List.getElem?_eq_getElem (show d < badL.length from h)]
  exact badL_clean _ (List.getElem_mem _)
theorem linesT_cons (p : List UInt8) (L : List (List UInt8)) : linesT (p :: L) = (p ++ [10]) ++ linesT L := rfl
def badV : List Value := [.string { data := #[109, 105, 110, 101, 10] }, .string { data := #[10] }, .string { data := #[109, 105, 110, 101, 32, 49, 32, 48, 32, 48, 32, 48, 32, 48, 32, 110, 97, 110, 32, 46, 32, 53, 10] }, .string { data := #[112, 97, 121, 32, 49, 32, 50, 32, 51, 32, 52, 32, 53, 32, 48, 32, 46, 10] }, .string { data := #[102, 111, 114, 107, 32, 43, 49, 32, 48, 32, 48, 32, 48, 32, 48, 32, 110, 97, 110, 32, 46, 10] }, .string { data := #[32, 109, 105, 110, 101, 32, 49, 32, 48, 32, 48, 32, 48, 32, 48, 32, 110, 97, 110, 32, 46, 10] }, .string { data := #[98, 101, 110, 100, 32, 48, 32, 48, 32, 48, 32, 48, 32, 48, 32, 110, 97, 110, 32, 49, 10] }, .string { data := #[116, 97, 107, 101, 32, 48, 32, 48, 32, 48, 32, 48, 32, 48, 32, 78, 97, 78, 32, 46, 10] }, .string { data := #[100, 114, 111, 112, 32, 48, 32, 48, 32, 48, 32, 48, 32, 48, 48, 32, 110, 97, 110, 32, 46, 10] }, .string { data := #[99, 111, 112, 121, 32, 48, 32, 48, 32, 48, 32, 48, 32, 48, 32, 51, 70, 70, 48, 48, 48, 48, 48, 48, 48, 48, 48, 48, 48, 48, 48, 32, 46, 10] }]
theorem bad_row : ∀ i, i < 10 → cutF badV 1 i = strsF badT i
  | 0, _ => rfl
  | 1, _ => rfl
  | 2, _ => rfl
  | 3, _ => rfl
  | 4, _ => rfl
  | 5, _ => rfl
  | 6, _ => rfl
  | 7, _ => rfl
  | 8, _ => rfl
  | 9, _ => rfl
  | n + 10, h => by omega
def lnS (l : List ChR) (ad : Nat → Nat → Option Addr × Nat) (K : Nat) (k : UInt8) (s t : List UInt8) (t1 t2 : TypeId) (p1 p2 : Value) : St :=
  ⟨[some (XV.sv (.slc 0 8 0 l.length)), none, some (XV.val (u8 k)), none, none, none, none, some (XV.int .i64 K), some (XV.val (strV s)), none, some (XV.val (strV t)), none, some (XV.sv (.slc 7 1 0 10))] ++ List.replicate 99 none,
   [(0, .ro 8 l.length fun k => fillA 0 (l.getD k default).ac (ad k)), (1, .ext (PartsE l.length (fun i => (l.getD i default).ac) ad)), (4, .ext powP), (5, .ext (VarP 4 (errV t1 p1))), (6, .ext (VarP 5 (errV t2 p2))), (7, .vec 9 1 10 (strsF badT))], 8⟩
set_option maxHeartbeats 16000000 in
theorem lines_walk (l : List ChR) (ad : Nat → Nat → Option Addr × Nat) (a k : UInt8) (hl : l.length ≤ maxLen) (hf : ∀ i, i < l.length → (l.getD i default).Fine) {t1 t2 : TypeId} {p1 p2 : Value} :
    Reads Tryd.prog 3 [.deep 8 l.length (fun i => (l.getD i default).ac) ad, .plain (.one (.raw (u8 a))), .plain (.one (.raw (u8 k)))] (lawsP t1 p1 t2 p2) (XV.bool true) := by
  refine Reads.of Tryd.T_ok Tryd.func3 rfl _ _ _ rfl rfl (fun C hC => ?_)
  (replace hC : C.n0 = 7 := hC; change Tri _ _ _ ⟨_, _, 7⟩ _)
  refine xK 3 ?_
  refine xC rfl Tryd.func7 rfl (awake26.at [4, 5, 6] trivial ⟨lend_ext (c := 4) rfl rfl, lend_ext (c := 5) rfl rfl, lend_ext (c := 6) rfl rfl, trivial⟩) ?_
  refine xC rfl Tryd.func8 rfl ((few_can l ad 30 hl).at [0, 1] ⟨lend_deep (c := 0) (q := 1) (lo := 0) rfl rfl rfl rfl (by omega) (fun i _ => by rw [Nat.zero_add]) (fun i _ => by rw [Nat.zero_add]), lend_plain rfl, trivial⟩ trivial) ?_
  refine wC (fun h1 => ?_) (fun h1 => ?_)
  · (refine xG ?_)
    exact wD <| cutR <| Ends.plain (.inr rfl) rfl rfl
  have hl30 : l.length ≤ 30 := by
    have h : fewB l 30 = true := by rw [← Bool.not_not (fewB l 30), h1]; rfl
    rw [fewB, Bool.and_eq_true] at h
    have := of_decide_eq_true h.1
    omega
  clear h1 hl
  (refine xG ?_)
  refine wD <| cutG ?_
  refine xK 2 ?_
  (repeat (refine wN ?_ ?_; exact xW; refine xG ?_))
  obtain ⟨K, hK⟩ : ∃ K, a.toNat % (l.length + 1) = K := ⟨_, rfl⟩
  have hKl : K ≤ l.length := by rw [← hK]; exact Nat.lt_succ_iff.1 (Nat.mod_lt _ (Nat.succ_pos _))
  have hw : IntKind.i64.wrap ((l.length : Int) + 1) = ((l.length + 1 : Nat) : Int) := xW
  have hq : Int.tmod (a.toNat : Int) ((l.length + 1 : Nat) : Int) = (K : Int) := by rw [← hK]; rfl
  have hw0 : IntKind.i64.wrap (a.toNat : Int) = (a.toNat : Int) := by have := a.toNat_lt; exact xW
  simp only [hw0, hw, hq, Int.toNat_natCast]
  have hp1 := rprint_can (l.take K) ad (by rw [List.length_take]; simp only [maxLen]; omega) (fun i hi => by rw [List.length_take] at hi; rw [getD_take l (by omega)]; exact hf i (by omega))
  have hp2 := rprint_can (l.drop K) (fun i => ad (K + i)) (by rw [List.length_drop]; simp only [maxLen]; omega) (fun i hi => by rw [List.length_drop] at hi; rw [getD_drop]; exact hf _ (by omega))
  rw [List.length_take, Nat.min_eq_left hKl] at hp1
  rw [List.length_drop] at hp2
  (repeat (refine wN ?_ ?_; exact xW; refine xG ?_))
  refine xC rfl Tryd.func9 rfl (hp1.at [0, 1] ⟨lend_deep (c := 0) (q := 1) (lo := 0) rfl rfl rfl rfl (by omega) (fun i hi => by rw [Nat.zero_add, getD_take l hi]) (fun i _ => by rw [Nat.zero_add]), trivial⟩ trivial) ?_
  refine wD <| cutG ?_
  refine xK 1 ?_
  (repeat (refine wN ?_ ?_; exact xW; refine xG ?_))
  simp only [Nat.zero_add, Int.toNat_natCast]
  refine xC rfl Tryd.func9 rfl (hp2.at [0, 1] ⟨lend_deep (c := 0) (q := 1) (lo := K) rfl rfl rfl rfl (by omega) (fun i hi => by rw [getD_drop l]) (fun i _ => rfl), trivial⟩ trivial) ?_
  clear hp1 hp2 hq hw hw0
  refine wD <| cutG ?_
  refine xK 1 ?_
  refine wC (fun h1 => ?_) (fun h1 => ?_)
  · (refine xG ?_)
    exact wD <| cutR <| Ends.plain (.inr rfl) rfl rfl
  (refine xG ?_)
  refine wC (fun h2 => ?_) (fun h2 => ?_)
  · (refine xG ?_)
    exact wD <| cutR <| Ends.plain (.inr rfl) rfl rfl
  (refine xG ?_)
  refine wC (fun h3 => ?_) (fun h3 => ?_)
  · (refine xG ?_)
    exact wD <| cutR <| Ends.plain (.inr rfl) rfl rfl
  obtain ⟨es, gs, us⟩ := pr_text (l := l.take K) (bne_eq_false_iff_eq.1 h1)
  obtain ⟨et, gt, ut⟩ := pr_text (l := l.drop K) (bne_eq_false_iff_eq.1 h2)
  have hlen : ((prT (l.take K)).length : Int) + ((prT (l.drop K)).length : Int) ≤ 100000 := by
    have := of_decide_eq_false h3
    rw [bs_size, bs_size] at this
    rw [IntKind.wrap_i64] at this
    omega
  clear h1 h2 h3
  rw [es, et] at hlen
  rw [es, et]
  obtain ⟨L1, hL1⟩ : ∃ L, (l.take K).map lineB = L := ⟨_, rfl⟩
  obtain ⟨L2, hL2⟩ : ∃ L, (l.drop K).map lineB = L := ⟨_, rfl⟩
  rw [hL1, hL2] at hlen ⊢
  (refine xG ?_)
  refine wD <| cutG ?_
  refine xK 1 ?_
  refine wD <| cutG <| Tri.ent (S' := lnS l ad K k (linesT L1) (linesT L2) t1 t2 p1 p2) ?_ ?_
  · ((try dsimp only); refine Ent.renC [0, 1, 2, 3, 4, 5, 6, 52] hC ?_ ?_ <;> repeat' (first | exact trivial | exact rfl | exact ⟨_, rfl, rfl, rfl, Nat.le_refl _, fun _ _ => rfl⟩ | exact ⟨_, rfl, rfl, rfl, fun _ _ => rfl⟩ | exact ⟨_, rfl, rfl, rfl⟩ | exact ⟨_, rfl, rfl⟩ | refine ⟨_, rfl, rfl, rfl, by omega, fun k hk => ?_⟩ | refine ⟨?_, ?_⟩ | fail))
    exact bad_row _ hk
  have hfine : ∀ c, c ∈ l → c.Fine := fun c hc => by
    obtain ⟨i, hi, e⟩ := List.getElem_of_mem hc
    have := hf i hi
    rw [List.getD_eq_getElem?_getD, List.getElem?_eq_getElem hi, e] at this
    exact this
  have hlen1 : L1.length = K := by rw [← hL1, List.length_map, List.length_take]; omega
  have hlen2 : L2.length = l.length - K := by rw [← hL2, List.length_map, List.length_drop]
  have hc1 : ∀ p, p ∈ L1 → (∀ y ∈ p, y ≠ 10) ∧ chB p = true := fun p hp => by
    rw [← hL1] at hp
    obtain ⟨c, hc, rfl⟩ := List.mem_map.1 hp
    exact ⟨lineB_clean c, lineB_good (hfine c (List.mem_of_mem_take hc)) (gs c hc)⟩
  have hc2 : ∀ p, p ∈ L2 → (∀ y ∈ p, y ≠ 10) ∧ chB p = true := fun p hp => by
    rw [← hL2] at hp
    obtain ⟨c, hc, rfl⟩ := List.mem_map.1 hp
    exact ⟨lineB_clean c, lineB_good (hfine c (List.mem_of_mem_drop hc)) (gt c hc)⟩
  clear es et gs gt us ut hL1 hL2 hfine hf hK
  have g1 := lines_good (L := L1 ++ L2) (fun p hp => (List.mem_append.1 hp).elim (fun h => (hc1 p h).1) (fun h => (hc2 p h).1)) (by rw [linesT_app, List.length_append]; omega) (by rw [List.length_append]; omega) (fun p hp => (List.mem_append.1 hp).elim (fun h => (hc1 p h).2) (fun h => (hc2 p h).2))
  rw [linesT_app, List.length_append, hlen1, hlen2, show K + (l.length - K) = l.length by omega] at g1
  obtain ⟨d, hd⟩ : ∃ d, k.toNat % 10 = d := ⟨_, rfl⟩
  have hd10 : d < 10 := by rw [← hd]; exact Nat.mod_lt _ (by decide)
  have hbt : badT.getD d [] = badL.getD d [] ++ [10] := badT_at d hd10
  have hbl := badL_len d hd10
  have g2 := lines_bad (L := L1 ++ (badL.getD d [] :: L2)) (k := K) (fun p hp => (List.mem_append.1 hp).elim (fun h => (hc1 p h).1) (fun h => (List.mem_cons.1 h).elim (fun e => by rw [e]; exact badL_all d hd10) (fun h => (hc2 p h).1)))
    (by rw [linesT_app, List.length_append, linesT_cons, List.length_append, List.length_append, List.length_singleton]; omega) (by rw [List.length_append, List.length_cons]; omega) (by rw [List.length_append, List.length_cons]; omega)
    (fun i hi => by
      rw [List.getD_eq_getElem?_getD, List.getElem?_append_left (by omega), List.getElem?_eq_getElem (by omega)]
      exact (hc1 _ (List.getElem_mem _)).2)
    (by rw [List.getD_eq_getElem?_getD, List.getElem?_append_right (by omega), hlen1, Nat.sub_self]; exact badL_bad d hd10)
  rw [linesT_app, linesT_cons, ← hbt, ← List.append_assoc] at g2
  have hp2 := parse_can (linesT L1 ++ badT.getD d [] ++ linesT L2) (by rw [hbt]; simp only [List.length_append, List.length_singleton]; omega) (t1 := t1) (t2 := t2) (p1 := p1) (p2 := p2)
  rw [parX_nil g2.1, parC_nil g2.1, g2.2.1, g2.2.2] at hp2
  have hp1 := parse_can (linesT L1 ++ linesT L2) (by rw [List.length_append]; omega) (t1 := t1) (t2 := t2) (p1 := p1) (p2 := p2)
  have hs1 : (bs (linesT L1)).size + (bs (linesT L2)).size ≤ 9223372036854775807 := by rw [bs_size, bs_size]; omega
  have hs2 : (bs (linesT L1)).size + (bs (badT.getD d [])).size ≤ 9223372036854775807 := by rw [bs_size, bs_size, hbt, List.length_append, List.length_singleton]; omega
  have hs3 : (bs (linesT L1 ++ badT.getD d [])).size + (bs (linesT L2)).size ≤ 9223372036854775807 := by rw [bs_size, bs_size, hbt, List.length_append, List.length_append, List.length_singleton]; omega
  have hw1 : IntKind.i64.wrap (k.toNat : Int) = (k.toNat : Int) := by have := k.toNat_lt; exact xW
  have hw2 : Int.tmod (k.toNat : Int) ((10 : Nat) : Int) = (d : Int) := by rw [← hd]; rfl
  have hw3 : IntKind.i64.wrap ((K : Int) + 1) = ((K + 1 : Nat) : Int) := xW
  clear hbl hlen hbt hd hc1 hc2
  cases hn : l.length with
  | zero =>
    rw [hn] at g1
    rw [parX_nil g1.1, parC_nil g1.1, g1.2.1, g1.2.2] at hp1
    refine xK 1 ?_
    refine wN hs1 ?_
    (refine xG ?_)
    rw [bs_cat]
    refine xC rfl Tryd.func10 rfl (hp1.at [4, 5, 6] (lends_raws [strV (linesT L1 ++ linesT L2)]) ⟨lend_ext (c := 4) rfl rfl, lend_ext (c := 5) rfl rfl, lend_ext (c := 6) rfl rfl, trivial⟩) ?_
    refine wD <| cutG <| xI ?_
    (refine xB ?_)
    simp only [hw1, hw2]
    refine wN ⟨by omega, by omega⟩ ?_
    (refine xG ?_)
    simp only [Nat.zero_add, Int.toNat_natCast]
    refine wN hd10 ?_
    (refine xG ?_)
    refine wN hs2 ?_
    (refine xG ?_)
    rw [bs_cat]
    refine wN hs3 ?_
    (refine xG ?_)
    rw [bs_cat]
    refine xC rfl Tryd.func10 rfl (hp2.at [4, 5, 6] (lends_raws [strV (linesT L1 ++ badT.getD d [] ++ linesT L2)]) ⟨lend_ext (c := 4) rfl rfl, lend_ext (c := 5) rfl rfl, lend_ext (c := 6) rfl rfl, trivial⟩) ?_
    refine wTd (by rw [hn]; exact beq_self_eq_true _) ?_
    (refine xG ?_)
    refine wTd (by rw [hw3]; exact beq_self_eq_true _) ?_
    (refine xG ?_)
    exact wD <| Ends.plain (.inr rfl) rfl rfl
  | succ n =>
    rw [hn] at g1
    rw [parX_made g1.1, parC_made g1.1, g1.2.1, g1.2.2] at hp1
    refine xK 1 ?_
    refine wN hs1 ?_
    (refine xG ?_)
    rw [bs_cat]
    refine xC rfl Tryd.func10 rfl (hp1.at [4, 5, 6] (lends_raws [strV (linesT L1 ++ linesT L2)]) ⟨lend_ext (c := 4) rfl rfl, lend_ext (c := 5) rfl rfl, lend_ext (c := 6) rfl rfl, trivial⟩) ?_
    refine wD <| cutG <| xI ?_
    (refine xB ?_)
    simp only [hw1, hw2]
    refine wN ⟨by omega, by omega⟩ ?_
    (refine xG ?_)
    simp only [Nat.zero_add, Int.toNat_natCast]
    refine wN hd10 ?_
    (refine xG ?_)
    refine wN hs2 ?_
    (refine xG ?_)
    rw [bs_cat]
    refine wN hs3 ?_
    (refine xG ?_)
    rw [bs_cat]
    refine xC rfl Tryd.func10 rfl (hp2.at [4, 5, 6] (lends_raws [strV (linesT L1 ++ badT.getD d [] ++ linesT L2)]) ⟨lend_ext (c := 4) rfl rfl, lend_ext (c := 5) rfl rfl, lend_ext (c := 6) rfl rfl, trivial⟩) ?_
    refine wTd (by rw [hn]; exact beq_self_eq_true _) ?_
    (refine xG ?_)
    refine wTd (by rw [hw3]; exact beq_self_eq_true _) ?_
    (refine xG ?_)
    exact wD <| Ends.plain (.inr rfl) rfl rfl
set_option maxRecDepth 100000
open Go.Sx Go.RowKit Go.ChangeShapes Go.WideShapes Go.ChangeAt
theorem own : ownKnob Tryd.prog.godebug = none := by kernel_rfl
theorem laid : laidOutB Tryd.prog = true := by kernel_rfl
theorem fits_u8 {v : Value} (h : (Kd.int .u8).fits v) : ∃ y : UInt8, v = u8 y := by
  obtain ⟨n, rfl, hw⟩ := h
  have e1 : IntKind.u8.min = 0 := rfl
  have e2 : IntKind.u8.max = 255 := rfl
  simp [Lit.wf, e1, e2] at hw
  refine ⟨UInt8.ofNat n.toNat, ?_⟩
  simp only [u8, Value.int.injEq, true_and]
  have : (UInt8.ofNat n.toNat).toNat = n.toNat := UInt8.toNat_ofNat_of_lt' (by simp [UInt8.size]; omega)
  omega
theorem byte_dec (cs : List Value) (h : Fits [.int .u8] cs) : ∃ x : UInt8, cs = [u8 x] := by
  obtain ⟨_, _, rfl, a0, rfl⟩ := h
  obtain ⟨b0, rfl⟩ := fits_u8 a0
  exact ⟨b0, rfl⟩
theorem int_dec (cs : List Value) (h : Fits [.int .i64] cs) : ∃ n : Int, cs = [.int .i64 n] ∧ inI n := by
  obtain ⟨_, _, rfl, ⟨n, rfl, hw⟩, rfl⟩ := h
  have e1 : IntKind.i64.min = -9223372036854775808 := rfl
  have e2 : IntKind.i64.max = 9223372036854775807 := rfl
  simp [Lit.wf, e1, e2] at hw
  exact ⟨n, rfl, hw⟩
section
variable {H : Type} {enc : TypeId × Value → H} {W : World}
theorem trod_f64 {P : Program} {t : TypeId} {fuel : Nat} {cs : List Value} {base : Nat} {sp : Nat → Bool} {held : Bool} {x : DataW H × List MemPlace} (ht : P.underlying t = some (.float .f64)) (h : DataW.trod enc P W base sp held fuel t cs = some x) : ∃ b, cs = [.float .f64 b] ∧ (Lit.float .f64 b).wf = true := by
  cases fuel with
  | zero => simp [DataW.trod] at h
  | succ n =>
    unfold DataW.trod at h
    rw [ht] at h
    split at h <;> simp_all
theorem open_u8 {v : Value} {d : DataW H} {p : List MemPlace} (h : DataW.Trod enc Tryd.prog W 0 (fun _ => true) true 5 v d p) (hv : Value.okWide Tryd.prog W .any 0 5 v) : ∃ x : UInt8, v = u8 x := by
  obtain ⟨n, rfl, _, hw⟩ := open_int Tryd.underlying5 hv h
  exact fits_u8 ⟨n, rfl, hw.2⟩
theorem ch_size : Tryd.prog.cellsOf 3 = 1 ∧ Tryd.prog.cellsOf 39 = 1 ∧ Tryd.prog.cellsOf 41 = 1 := ⟨by kernel_rfl, by kernel_rfl, by kernel_rfl⟩
set_option maxRecDepth 100000 in
theorem ch_dec (n : Nat) (cs : List Value) (y : DataW H × List MemPlace) (h : DataW.trod enc Tryd.prog W 0 (fun _ => true) true n 43 cs = some y) (hl : cs.length = 8) (b0 : Nat) (hb0 : b0 < W.heap.size) :
    ∃ (z : ChR) (g : Nat → Option Addr × Nat), z.Fine ∧ cs = fillA 0 z.ac g ∧ ∀ j y, z.ac[j]? = some y → ∃ v, AC.at W (fun k => k < W.heap.size) y (g j) v := by
  obtain ⟨s1, s2, s3⟩ := ch_size
  obtain ⟨xs, n', _, _, _, hxl, hf⟩ := DataW.trod_struct Tryd.underlying43 h
  match cs, hl with
  | [c0, c1, c2, c3, c4, c5, c6, c7], _ =>
    match xs, hxl with
    | [x0, x1, x2, x3, x4, x5, x6, x7], _ =>
      have e0 : DataW.trod enc Tryd.prog W 0 (fun _ => true) true n' 3 (List.take (Tryd.prog.cellsOf 3) (List.drop 0 [c0, c1, c2, c3, c4, c5, c6, c7])) = some x0 := hf 0 _ rfl
      have e1 : DataW.trod enc Tryd.prog W 0 (fun _ => true) true n' 3 (List.take (Tryd.prog.cellsOf 3) (List.drop 1 [c0, c1, c2, c3, c4, c5, c6, c7])) = some x1 := hf 1 _ rfl
      have e2 : DataW.trod enc Tryd.prog W 0 (fun _ => true) true n' 3 (List.take (Tryd.prog.cellsOf 3) (List.drop 2 [c0, c1, c2, c3, c4, c5, c6, c7])) = some x2 := hf 2 _ rfl
      have e3 : DataW.trod enc Tryd.prog W 0 (fun _ => true) true n' 3 (List.take (Tryd.prog.cellsOf 3) (List.drop 3 [c0, c1, c2, c3, c4, c5, c6, c7])) = some x3 := hf 3 _ rfl
      have e4 : DataW.trod enc Tryd.prog W 0 (fun _ => true) true n' 3 (List.take (Tryd.prog.cellsOf 3) (List.drop 4 [c0, c1, c2, c3, c4, c5, c6, c7])) = some x4 := hf 4 _ rfl
      have e5 : DataW.trod enc Tryd.prog W 0 (fun _ => true) true n' 3 (List.take (Tryd.prog.cellsOf 3) (List.drop 5 [c0, c1, c2, c3, c4, c5, c6, c7])) = some x5 := hf 5 _ rfl
      have e6 : DataW.trod enc Tryd.prog W 0 (fun _ => true) true n' 39 (List.take (Tryd.prog.cellsOf 39) (List.drop 6 [c0, c1, c2, c3, c4, c5, c6, c7])) = some x6 := hf 6 _ rfl
      have e7 : DataW.trod enc Tryd.prog W 0 (fun _ => true) true n' 41 (List.take (Tryd.prog.cellsOf 41) (List.drop 7 [c0, c1, c2, c3, c4, c5, c6, c7])) = some x7 := hf 7 _ rfl
      rw [s1] at e0 e1 e2 e3 e4 e5
      rw [s2] at e6
      rw [s3] at e7
      obtain ⟨y0, k0, _⟩ := int_dec [c0] (trod_fits Tryd.T_ok 8 3 [.int .i64] rfl n' _ x0 e0)
      obtain ⟨y1, k1, w1⟩ := int_dec [c1] (trod_fits Tryd.T_ok 8 3 [.int .i64] rfl n' _ x1 e1)
      obtain ⟨y2, k2, w2⟩ := int_dec [c2] (trod_fits Tryd.T_ok 8 3 [.int .i64] rfl n' _ x2 e2)
      obtain ⟨y3, k3, w3⟩ := int_dec [c3] (trod_fits Tryd.T_ok 8 3 [.int .i64] rfl n' _ x3 e3)
      obtain ⟨y4, k4, w4⟩ := int_dec [c4] (trod_fits Tryd.T_ok 8 3 [.int .i64] rfl n' _ x4 e4)
      obtain ⟨y5, k5, w5⟩ := int_dec [c5] (trod_fits Tryd.T_ok 8 3 [.int .i64] rfl n' _ x5 e5)
      obtain ⟨y6, k6, w6⟩ := trod_f64 (cs := [c6]) Tryd.underlying39 e6
      obtain ⟨l7, p7, b7, k7, v7⟩ := row_in_cell Tryd.T_ok (t := 41) (e := 5) rfl rfl rfl (by decide) (f := 8) (ks := [.int .u8]) rfl (cs := [c7]) e7 hb0 (fun x => [u8 x]) byte_dec 0
      simp only [List.cons.injEq, and_true] at k0 k1 k2 k3 k4 k5 k6 k7
      subst k0 k1 k2 k3 k4 k5 k6 k7
      refine ⟨⟨y0, y1, y2, y3, y4, y5, y6, l7⟩, fun _ => p7, ⟨w1, w2, w3, w4, w5, by simpa [Lit.wf] using w6, b7⟩, rfl, fun j y hy => ?_⟩
      match j, hy with
      | 0, hy => obtain rfl := Option.some.inj hy; exact ⟨_, rfl⟩
      | 1, hy => obtain rfl := Option.some.inj hy; exact ⟨_, rfl⟩
      | 2, hy => obtain rfl := Option.some.inj hy; exact ⟨_, rfl⟩
      | 3, hy => obtain rfl := Option.some.inj hy; exact ⟨_, rfl⟩
      | 4, hy => obtain rfl := Option.some.inj hy; exact ⟨_, rfl⟩
      | 5, hy => obtain rfl := Option.some.inj hy; exact ⟨_, rfl⟩
      | 6, hy => obtain rfl := Option.some.inj hy; exact ⟨_, rfl⟩
      | 7, hy => obtain rfl := Option.some.inj hy; exact v7
theorem open_chs {v : Value} {d : DataW H} {p : List MemPlace} (h : DataW.Trod enc Tryd.prog W 0 (fun _ => true) true 22 v d p) (hv : Value.okWide Tryd.prog W .any 0 22 v) :
    ∃ (l : List ChR) (ad : Nat → Nat → Option Addr × Nat), l.length ≤ maxLen ∧ (∀ i, i < l.length → (l.getD i default).Fine) ∧ Sx.Came W v (.deep 8 l.length (fun i => (l.getD i default).ac) ad) := by
  obtain ⟨fuel, hf⟩ := h
  have hv' : Cell.okWide Tryd.prog W .any 0 22 v := by
    simp only [Value.okWide, Tryd.underlying22] at hv
    exact hv
  have hc : v.cells.toList = [v] := by
    cases v with
    | agg cs => simp [Cell.okWide, Cell.ok, Tryd.underlying22] at hv'
    | _ => rfl
  rw [hc] at hf
  exact open_deep Tryd.T_ok (t := 22) (e := 43) rfl rfl rfl (by decide) hf hv' ChR.ac ChR.Fine (fun n cs y h1 h2 b0 hb => ch_dec n cs y h1 h2 b0 hb) default
end
def laws7 : List (String × DataW Unit) := [("math/bits.deBruijn32tab", Rows.laid_math_bits_deBruijn32tab), ("math/bits.deBruijn64tab", Rows.laid_math_bits_deBruijn64tab), ("internal/strconv.uint64pow10", Rows.laid_internal_strconv_uint64pow10), ("unicode/utf8.acceptRanges", Rows.laid_unicode_utf8_acceptRanges), ("strconv.ErrRange", Rows.laid_strconv_ErrRange), ("strconv.ErrSyntax", Rows.laid_strconv_ErrSyntax), ("unicode/utf8.first", Rows.laid_unicode_utf8_first)]
theorem var_ext {W : World} {n : String} {g : Nat} {cs : Array Value} (hn : Tryd.prog.globalNamed n = some g) (h : W.var? Tryd.prog n = some cs) : ∃ L, ExtAt W (fun _ => True) L (VarP g cs) := by
  simp only [World.var?, hn, Option.bind_some] at h
  cases hg : W.heap[g]? with
  | none => rw [hg] at h; cases h
  | some o =>
    rw [hg] at h
    cases o with
    | cells a e f =>
      simp only [Option.some.injEq] at h
      subst h
      exact ⟨default, fun k => k = g, fun k hk => ⟨by rw [hk]; exact (Array.getElem?_eq_some_iff.1 hg).1, trivial⟩, rfl, e, f, hg⟩
    | _ => cases h
theorem pow_type : (Tryd.prog.globals[6]?).map (·.type) = some 139 := by kernel_rfl
theorem syn_type : (Tryd.prog.globals[4]?).map (·.type) = some 59 := by kernel_rfl
theorem rng_type : (Tryd.prog.globals[5]?).map (·.type) = some 59 := by kernel_rfl
set_option maxRecDepth 100000 in
theorem laws_came {W : World} (h : laidMetH Tryd.prog laws7 W) : ∃ (t1 : TypeId) (p1 : Value) (t2 : TypeId) (p2 : Value), CameX W (lawsP t1 p1 t2 p2) := by
  rw [MakeChecks.laidMetH_plain _ _ _ (by kernel_rfl)] at h
  obtain ⟨ps, hv, _⟩ := h
  obtain ⟨_, _, _, _, _, _, _, _, _, _, hv, _⟩ := hv
  obtain ⟨_, _, _, _, _, _, _, _, _, _, hv, _⟩ := hv
  obtain ⟨g3, t3, c3, f3, q3, r3, hg3, ht3, hv3, hd3, hv, _⟩ := hv
  obtain ⟨_, _, _, _, _, _, _, _, _, _, hv, _⟩ := hv
  obtain ⟨g5, t5, c5, f5, q5, r5, hg5, ht5, hv5, hd5, hv, _⟩ := hv
  obtain ⟨g6, t6, c6, f6, q6, r6, hg6, ht6, hv6, hd6, hv, _⟩ := hv
  obtain rfl := Option.some.inj (pow_named.symm.trans hg3)
  obtain rfl := Option.some.inj (pow_type.symm.trans ht3)
  obtain rfl := Option.some.inj (rng_named.symm.trans hg5)
  obtain rfl := Option.some.inj (rng_type.symm.trans ht5)
  obtain rfl := Option.some.inj (syn_named.symm.trans hg6)
  obtain rfl := Option.some.inj (syn_type.symm.trans ht6)
  have k3 := Lib.cells_of_tab (zs := Lib.pow10Tab) (k := .u64) Tryd.underlying139 Tryd.underlying67 (by kernel_rfl) (by kernel_rfl) hd3
  obtain ⟨_, u5, w5, k5, _⟩ := iface_of_trod Tryd.underlying59 hd5
  obtain ⟨_, u6, w6, k6, _⟩ := iface_of_trod Tryd.underlying59 hd6
  have e3 : c3 = powV := by rw [powV, ← k3, Array.toArray_toList]
  have e5 : c5 = errV u5 w5 := by rw [errV, ← Array.toList_inj, k5]
  have e6 : c6 = errV u6 w6 := by rw [errV, ← Array.toList_inj, k6]
  rw [e3] at hv3
  rw [e5] at hv5
  rw [e6] at hv6
  exact ⟨u6, w6, u5, w5, var_ext pow_named hv3, var_ext syn_named hv6, var_ext rng_named hv5, trivial⟩
set_option maxRecDepth 100000 in
theorem door_met (os : Os) (args : Array Value) : laidMetH Tryd.prog laws7 ((World.laidAll Tryd.prog os laws7).forCall (fun _ _ => 0) ⟨#[], args, []⟩).memory := by
  rw [MakeChecks.laidMetH_plain _ _ _ (by kernel_rfl)]
  exact laidMet_laidAll _ (by kernel_rfl) (by kernel_rfl)
set_option maxRecDepth 100000
open Go.Sx Go.RowKit Go.ChangeShapes Go.WideShapes Go.ChangeAt
set_option maxRecDepth 100000 in
theorem scriptLines_lifted (os : Os) (started : os.Started) (H : Type) (enc : TypeId × Value → H) :
    ReturnsInHanded {} Tryd.checked os 3 .any (fun w args => (Rows.scriptLinesSpec.pre enc Tryd.prog Tryd.f3 [] false w args ∧ laidMetH Tryd.prog laws7 w) ∧ sizedMet enc Tryd.prog Tryd.f3 (OpenSpec.ofChange Rows.scriptLinesSpec) false w args)
      (Rows.scriptLinesSpec.post enc Tryd.prog Tryd.f3 false true false false) := by
  refine returnsInHanded_of_change_and (C := Tryd.checked) (X := fun w _ => laidMetH Tryd.prog laws7 w) (fun _ _ _ hh h => h.of_heap hh) own started (by kernel_rfl) Tryd.func3
    (ChangeSpec.witness_shaped (enc := enc) (C := Tryd.checked) (os := os) (X := fun w _ => laidMetH Tryd.prog laws7 w) false (World.laidAll Tryd.prog os laws7) #[.slice none 0 0, .int .u8 0, .int .u8 0] 8 (World.laidAll_os _ _ _) (World.shaped_of_ZipB (by kernel_rfl) (by kernel_rfl)) (by kernel_rfl) (by kernel_rfl) (by kernel_rfl) (door_met os _)) ?_
  intro W base args ds gs before hval0 hW _ _ hL _
  have hval : ∀ (j : Nat) t v, Tryd.f3.params[j]? = some t → args[j]? = some v → Value.okWide Tryd.prog W .any base t v := hval0
  have hW' := hW
  obtain ⟨p, q, hA0, hV, rfl, hfz, hnd⟩ := hW
  have hA : DataW.TrodAll enc Tryd.prog W 0 (fun _ => true) true Tryd.f3.params.toList args.toList ds p := hA0
  rw [Tryd.params3] at hA hval
  obtain ⟨v0, vs0, d0, ds0, p0, q0, hargs, rfl, rfl, h0, r0⟩ := trodAll_cons hA
  obtain ⟨v1, vs1, d1, ds1, p1, q1, rfl, rfl, rfl, h1, r1⟩ := trodAll_cons r0
  obtain ⟨v2, vs2, d2, ds2, p2, q2, rfl, rfl, rfl, h2, r2⟩ := trodAll_cons r1
  obtain ⟨rfl, rfl, rfl⟩ := trodAll_nil r2
  obtain rfl : args = #[v0, v1, v2] := by cases args; simp_all
  obtain ⟨rfl, rfl⟩ := trodVars_none hV
  obtain ⟨l, ad, hl, hf, k0⟩ := open_chs h0 (hval 0 22 v0 rfl rfl)
  obtain ⟨x, rfl⟩ := open_u8 h1 (hval 1 5 v1 rfl rfl)
  obtain ⟨y, rfl⟩ := open_u8 h2 (hval 2 5 v2 rfl rfl)
  obtain ⟨t1, z1, t2, z2, hC⟩ := laws_came hL
  clear hA0 hval0
  refine ((lines_walk l ad x y hl hf).calls (vs := [v0, u8 x, u8 y]) ⟨k0, came_raw, came_raw, trivial⟩ hC).mono fun e W' ⟨v, β, he, hv, hb⟩ => ?_
  subst he
  simp only [XV.rel, CV.rel, SV.rel] at hv
  subst hv
  exact ⟨_, rfl, post_true laid hW' rfl (by kernel_rfl) hb rfl rfl (fun _ _ => trodAll_cons_mk (shut_bool Tryd.underlying4 _) trodAll_mk0)⟩
set_option maxRecDepth 100000
open Go.Sx Go.RowKit Go.ChangeShapes Go.WideShapes Go.ChangeAt
set_option maxHeartbeats 0 in
theorem scriptLines_joined : joinedFacts Tryd.prog 3 Tryd.f3 Rows.scriptLinesSpec Rows.scriptLinesRow = true := by
  unfold joinedFacts
  simp only [Bool.and_eq_true]
  repeat' apply And.intro
  all_goals as_aux_lemma => kernel_rfl
end Go.Proofs.YtdeodhahkjgfiaaDoor
