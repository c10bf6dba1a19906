/- Parts Sj Sk Sl Sm. -/
import Derived.Test.YtdeodhahkjgfiaaDoorG10
import Derived.Test.YtdeodhahkjgfiaaDoorG08
set_option linter.unusedSimpArgs false
set_option linter.unusedVariables false
namespace Go.Proofs.YtdeodhahkjgfiaaDoor
set_option maxRecDepth 100000
open Go.Sx Go.RowKit
theorem cutAt_most (c : UInt8) : ∀ l, (cutAt c l).length ≤ l.length + 1
  | [] => by simp [cutAt]
  | x :: r => by
    have ih := cutAt_most c r
    simp only [cutAt]
    split
    · simpa using ih
    · split
      · simp
      · rename_i p q hc
        rw [hc] at ih
        simp only [List.length_cons] at ih ⊢
        omega
def lineN (s : List UInt8) : Nat := (cutAt 10 s).length - 1
theorem lineN_eq (s : List UInt8) : (cutAt 10 s).length = lineN s + 1 := by
  have : (cutAt 10 s).length ≠ 0 := fun e => cutAt_ne 10 s (List.length_eq_zero_iff.1 e)
  unfold lineN; omega
theorem lineN_le (s : List UInt8) : lineN s ≤ s.length := by
  have := cutAt_most 10 s
  have := lineN_eq s
  omega
def lineAt (s : List UInt8) (i : Nat) : List UInt8 := (cutAt 10 s).getD i []
theorem lineAt_len (s : List UInt8) (i : Nat) : (lineAt s i).length ≤ s.length := by
  rw [lineAt, List.getD_eq_getElem?_getD]
  cases h : (cutAt 10 s)[i]? with
  | none => simp
  | some p => exact cutAt_len 10 s p (List.mem_of_getElem? h)
def restB (s : List UInt8) : Bool := !decide (lineAt s (lineN s) = [])
def knowN (s : List UInt8) : Nat := if restB s = true then lineN s + 1 else lineN s
def longB (s : List UInt8) : Bool := decide (262144 < s.length) || decide (1000 < knowN s)
def goodTo (s : List UInt8) (i : Nat) : Prop := ∀ k, k < i → chB (lineAt s k) = true
def badFrom (s : List UInt8) : Nat → Nat → Nat
  | 0, i => i
  | k + 1, i => if chB (lineAt s i) = true then badFrom s k (i + 1) else i
def badAt (s : List UInt8) : Nat := badFrom s (lineN s) 0
theorem badAt_good {s : List UInt8} : ∀ {j : Nat}, goodTo s j → j ≤ lineN s → badAt s = badFrom s (lineN s - j) j
  | 0, _, _ => by rw [Nat.sub_zero]; rfl
  | j + 1, h, hj => by
    rw [badAt_good (j := j) (fun k hk => h k (Nat.lt_succ_of_lt hk)) (by omega), show lineN s - j = (lineN s - (j + 1)) + 1 by omega, badFrom, if_pos (h j (Nat.lt_succ_self j))]
theorem badAt_bad {s : List UInt8} {j : Nat} (h : goodTo s j) (hj : j < lineN s) (hb : chB (lineAt s j) = false) : badAt s = j := by
  rw [badAt_good h (Nat.le_of_lt hj), show lineN s - j = (lineN s - j - 1) + 1 by omega, badFrom, if_neg (by rw [hb]; decide)]
theorem badAt_all {s : List UInt8} (h : goodTo s (lineN s)) : badAt s = lineN s := by
  rw [badAt_good h (Nat.le_refl _), Nat.sub_self]; rfl
def chAC (s : List UInt8) : List AC := (chV s).map .raw ++ [.row 1 (datN (fld s 7)).length (rowB (datN (fld s 7)))]
def parN (s : List UInt8) : Nat := if longB s = true then 0 else if badAt s < lineN s then 0 else if restB s = true then 0 else lineN s
def parA (s : List UInt8) : Nat := if longB s = true then 0 else if badAt s < lineN s then badAt s + 1 else if restB s = true then lineN s + 1 else 0
def parE (s : List UInt8) : Nat := if longB s = true then 3 else if badAt s < lineN s then 21 else if restB s = true then 21 else 0
def parX (s : List UInt8) : XV := .tup [if parN s = 0 then .one (.raw (.slice none 0 0)) else .one (.slc 0 8 0 (parN s)), .one (.raw (.int .i64 (parA s))), .one (.raw (.int .i64 (parE s)))]
def parC (s : List UInt8) : Chunk := if parN s = 0 then .vec 9 1 (lineN s + 1) (strsF (cutAt 10 s)) else .abs (DeepP 45 8 (parN s) fun i => chAC (lineAt s i))
theorem parX_nil {s : List UInt8} (h : parN s = 0) : parX s = .tup [.one (.raw (.slice none 0 0)), .one (.raw (.int .i64 (parA s))), .one (.raw (.int .i64 (parE s)))] := by rw [parX, if_pos h]
theorem parC_nil {s : List UInt8} (h : parN s = 0) : parC s = .vec 9 1 (lineN s + 1) (strsF (cutAt 10 s)) := by rw [parC, if_pos h]
theorem parX_made {s : List UInt8} {n : Nat} (h : parN s = n + 1) : parX s = .tup [.one (.slc 0 8 0 (n + 1)), .one (.raw (.int .i64 (parA s))), .one (.raw (.int .i64 (parE s)))] := by rw [parX, if_neg (by omega), h]
theorem parC_made {s : List UInt8} {n : Nat} (h : parN s = n + 1) : parC s = .abs (DeepP 45 8 (n + 1) fun i => chAC (lineAt s i)) := by rw [parC, if_neg (by omega), h]
theorem deep_eq {e sz n : Nat} {F F' : Nat → List AC} (h : ∀ i, i < n → F i = F' i) : DeepP e sz n F = DeepP e sz n F' := by
  unfold DeepP
  congr 1
  funext w b s O
  refine propext ⟨?_, ?_⟩
  · rintro ⟨h1, h2, h3, h4, arr, h5, h6, h7⟩
    refine ⟨h1, h2, h3, h4, arr, h5, h6, fun i hi => ?_⟩
    rw [← h i hi]; exact h7 i hi
  · rintro ⟨h1, h2, h3, h4, arr, h5, h6, h7⟩
    refine ⟨h1, h2, h3, h4, arr, h5, h6, fun i hi => ?_⟩
    rw [h i hi]; exact h7 i hi
theorem deep_le {e sz n : Nat} {F F' : Nat → List AC} {f : Nat → Nat} (h : ∀ i, i < n → F i = F' i) : ChLe' (.abs (DeepP e sz n F)) (Chunk.ren f (.abs (DeepP e sz n F'))) := by
  rw [deep_eq h]
  exact rfl
theorem parX_ok (s : List UInt8) : (parX s).ok (fun j => Nat.beq 0 j) = true := by
  unfold parX
  split <;> simp [XV.ok, CV.ok, SV.ok, Nat.beq]
theorem parC_ro (s : List UInt8) : (parC s).isRo = false ∧ (parC s).closed = true := by
  unfold parC
  split <;> exact ⟨rfl, rfl⟩
theorem chB_in {s : List UInt8} (h : chB s = true) : chI s = true := by
  rw [chB, Bool.and_eq_true] at h
  exact h.1
theorem choice_good {s : List UInt8} (hs : s.length ≤ 300000) (h : chB s = true) {t1 t2 : TypeId} {p1 p2 : Value} : Makes Tryd.prog 20 (rawsD [strV s]) (lawsP t1 p1 t2 p2) (.tup [.agg ((chV s).map .raw ++ [.ins 0 1 0 (datN (fld s 7)).length]), .one (.raw (.bool true))]) (.abs (PackP [.vec 5 1 (datN (fld s 7)).length (rowB (datN (fld s 7)))])) := by
  have k := choice_can s hs (t1 := t1) (t2 := t2) (p1 := p1) (p2 := p2)
  have hi := chB_in h
  rw [chX, chC, h, show chVs s = chV s by rw [chVs, if_pos hi], show chDs s = datN (fld s 7) by rw [chDs, if_pos hi]; rfl] at k
  exact k
theorem choice_bad {s : List UInt8} (hs : s.length ≤ 300000) (h : chB s = false) {t1 t2 : TypeId} {p1 p2 : Value} : ∃ (a b c d e f : Int) (g n : Nat), Makes Tryd.prog 20 (rawsD [strV s]) (lawsP t1 p1 t2 p2) (.tup [.agg [.raw (.int .i64 a), .raw (.int .i64 b), .raw (.int .i64 c), .raw (.int .i64 d), .raw (.int .i64 e), .raw (.int .i64 f), .raw (flt g), .ins 0 1 0 n], .one (.raw (.bool false))]) (chC s) := by
  have k := choice_can s hs (t1 := t1) (t2 := t2) (p1 := p1) (p2 := p2)
  rw [chX, h] at k
  by_cases hi : chI s = true
  · rw [show chVs s = chV s by rw [chVs, if_pos hi]] at k
    exact ⟨_, _, _, _, _, _, _, _, k⟩
  · rw [show chVs s = ch0V by rw [chVs, if_neg hi]] at k
    exact ⟨_, _, _, _, _, _, _, _, k⟩
theorem boxed_ch (s : List UInt8) (p : Nat) : Boxed p [.vec 5 1 (datN (fld s 7)).length (rowB (datN (fld s 7)))] ((chV s).map SV.raw ++ [.ins p 1 0 (datN (fld s 7)).length]) (chAC s) :=
  ⟨rfl, rfl, rfl, rfl, rfl, rfl, rfl, .inr ⟨0, _, _, rfl, rfl, Nat.le_refl _, rfl⟩, trivial⟩
theorem parBad {s : List UInt8} (hL : longB s = false) {i : Nat} (hg : goodTo s i) (hi : i < lineN s) (hb : chB (lineAt s i) = false) : parN s = 0 ∧ parA s = i + 1 ∧ parE s = 21 := by
  have hn : ¬ longB s = true := by rw [hL]; decide
  have hb := badAt_bad hg hi hb
  unfold parN parA parE
  rw [if_neg hn, if_neg hn, if_neg hn, hb, if_pos hi, if_pos hi, if_pos hi]
  exact ⟨rfl, rfl, rfl⟩
theorem parRest {s : List UInt8} (hL : longB s = false) (hg : goodTo s (lineN s)) (hr : restB s = true) : parN s = 0 ∧ parA s = lineN s + 1 ∧ parE s = 21 := by
  have hn : ¬ longB s = true := by rw [hL]; decide
  have hb := badAt_all hg
  unfold parN parA parE
  rw [if_neg hn, if_neg hn, if_neg hn, hb, if_neg (Nat.lt_irrefl _), if_neg (Nat.lt_irrefl _), if_neg (Nat.lt_irrefl _), if_pos hr, if_pos hr, if_pos hr]
  exact ⟨rfl, rfl, rfl⟩
theorem parGood {s : List UInt8} (hL : longB s = false) (hg : goodTo s (lineN s)) (hr : restB s = false) : parN s = lineN s ∧ parA s = 0 ∧ parE s = 0 := by
  have hn : ¬ longB s = true := by rw [hL]; decide
  have hr : ¬ restB s = true := by rw [hr]; decide
  have hb := badAt_all hg
  unfold parN parA parE
  rw [if_neg hn, if_neg hn, if_neg hn, hb, if_neg (Nat.lt_irrefl _), if_neg (Nat.lt_irrefl _), if_neg (Nat.lt_irrefl _), if_neg hr, if_neg hr, if_neg hr]
  exact ⟨rfl, rfl, rfl⟩
def parSt0 (s : List UInt8) (t1 t2 : TypeId) (p1 p2 : Value) : St :=
  ⟨[none, none, some (XV.val (.slice none 0 0)), some (XV.int .i64 0), some (XV.int .i64 0), some (XV.sv (.slc 4 1 0 (lineN s + 1))), some (XV.int .i64 (lineN s)), some (XV.int .i64 (knowN s)), some (XV.val (.slice none 0 0))] ++ List.replicate 26 none ++ [some (XV.sv (.slc 4 1 0 (lineN s))), some (XV.int .i64 (lineN s)), some (XV.int .i64 0)] ++ List.replicate 23 none,
   lawM t1 t2 p1 p2 ++ [(4, .vec 9 1 (lineN s + 1) (strsF (cutAt 10 s)))], 5⟩
def parSt1 (s : List UInt8) (t1 t2 : TypeId) (p1 p2 : Value) (i : Nat) : St :=
  ⟨[none, none, some (XV.val (.slice none 0 0)), some (XV.int .i64 0), some (XV.int .i64 0), some (XV.sv (.slc 4 1 0 (lineN s + 1))), some (XV.int .i64 (lineN s)), some (XV.int .i64 (knowN s)), some (XV.sv (.slc 5 8 0 i))] ++ List.replicate 26 none ++ [some (XV.sv (.slc 4 1 0 (lineN s))), some (XV.int .i64 (lineN s)), some (XV.int .i64 i)] ++ List.replicate 23 none,
   lawM t1 t2 p1 p2 ++ [(4, .vec 9 1 (lineN s + 1) (strsF (cutAt 10 s))), (5, .abs (DeepP 45 8 i fun i => chAC (lineAt s i)))], 6⟩
def parSt (s : List UInt8) (t1 t2 : TypeId) (p1 p2 : Value) : Nat → St
  | 0 => parSt0 s t1 t2 p1 p2
  | i + 1 => parSt1 s t1 t2 p1 p2 (i + 1)
theorem mergesG {P : Program} {C : Ctx} {x y : Code} {S : St} {Q : Exit → St → Prop} {α : Type} (F : α → St) (hx : Tri P C x S (fun e S1 => (e = .normal ∧ ∃ a, Ent C S1 (F a)) ∨ (e = .ret ∧ Q .ret S1))) (hy : ∀ a, Tri P C y (F a) Q) : Tri P C (.seq x y) S Q := by
  refine Tri.seq (Tri.mono hx fun e S1 h => ?_)
  rcases h with ⟨rfl, a, h⟩ | ⟨rfl, h⟩
  · exact cutG (Tri.ent h (hy a))
  · exact cutR h
def parStA (s : List UInt8) (t1 t2 : TypeId) (p1 p2 : Value) : St :=
  ⟨[some (XV.val (strV s)), none, some (XV.val (.slice none 0 0)), some (XV.int .i64 0), some (XV.int .i64 0), some (XV.sv (.slc 4 1 0 (lineN s + 1))), some (XV.int .i64 (lineN s)), some (XV.int .i64 (knowN s))] ++ List.replicate 53 none,
   lawM t1 t2 p1 p2 ++ [(4, .vec 9 1 (lineN s + 1) (strsF (cutAt 10 s)))], 5⟩
theorem parNil {s : List UInt8} (h : longB s = true) : parN s = 0 ∧ parA s = 0 ∧ parE s = 3 := by
  unfold parN parA parE
  rw [if_pos h, if_pos h, if_pos h]
  exact ⟨rfl, rfl, rfl⟩
set_option maxHeartbeats 4000000 in
theorem parse_can (s : List UInt8) (hs : s.length ≤ 300000) {t1 t2 : TypeId} {p1 p2 : Value} : Makes Tryd.prog 10 (rawsD [strV s]) (lawsP t1 p1 t2 p2) (parX s) (parC s) := by
  refine Makes.of Tryd.T_ok Tryd.func10 rfl _ _ _ _ (parC_ro s).2 (parC_ro s).1 rfl (parX_ok s) 4 (fun C hC => ?_)
  have hn := lineN_eq s
  have hle := lineN_le s
  have hw : IntKind.i64.wrap (((lineN s + 1 : Nat) : Int) - 1) = (lineN s : Int) := xW
  (replace hC : C.n0 = 4 := hC; change Tri _ _ _ ⟨_, _, 4⟩ _)
  refine xK 2 ?_
  refine xC rfl Tryd.func19 rfl ((split_can s 10 (by omega)).at [] (lends_raws [strV s, strV [10]]) trivial) ?_
  simp only [hn]
  refine wD <| cutG ?_
  refine xK 2 ?_
  simp only [hw]
  refine wD <| cutG <| Tri.merges (parStA s t1 t2 p1 p2) (xI ?_) (mergesG (α := PLift (longB s = false)) (fun _ => parStA s t1 t2 p1 p2) (xI ?_) (fun hL => ?_))
  · (refine xB ?_)
    (repeat (refine wN ?_ ?_; exact xW; refine xG ?_))
    simp only [Nat.zero_add, Int.toNat_natCast]
    change wpN _ _ _ _ (Node.cond (!decide (bs (lineAt s (lineN s)) = bs [])) _ _)
    rw [str_is]
    refine wC (fun h1 => ?_) (fun h1 => ?_)
    · have hk : knowN s = lineN s + 1 := by rw [knowN, if_pos (by rw [restB, h1])]
      (refine xG ?_)
      refine wD <| .inl ⟨rfl, ?_⟩
      have hw' : IntKind.i64.wrap ((lineN s : Int) + 1) = ((lineN s + 1 : Nat) : Int) := xW
      rw [hw']
      ((try dsimp only); refine Ent.renC [0, 1, 2, 3, 8] hC ?_ ?_ <;> repeat' (first | exact trivial | exact rfl | exact ⟨_, rfl, rfl, rfl, Nat.le_refl _, fun _ _ => rfl⟩ | exact ⟨_, rfl, rfl, rfl, fun _ _ => rfl⟩ | exact ⟨_, rfl, rfl, rfl⟩ | exact ⟨_, rfl, rfl⟩ | refine ⟨_, rfl, rfl, rfl, by omega, fun k hk => ?_⟩ | refine ⟨?_, ?_⟩ | fail))
      rw [hk]; rfl
    · have hk : knowN s = lineN s := by rw [knowN, if_neg (by rw [restB, h1]; decide)]
      (refine xG ?_)
      refine wD <| .inl ⟨rfl, ?_⟩
      ((try dsimp only); refine Ent.renC [0, 1, 2, 3, 8] hC ?_ ?_ <;> repeat' (first | exact trivial | exact rfl | exact ⟨_, rfl, rfl, rfl, Nat.le_refl _, fun _ _ => rfl⟩ | exact ⟨_, rfl, rfl, rfl, fun _ _ => rfl⟩ | exact ⟨_, rfl, rfl, rfl⟩ | exact ⟨_, rfl, rfl⟩ | refine ⟨_, rfl, rfl, rfl, by omega, fun k hk => ?_⟩ | refine ⟨?_, ?_⟩ | fail))
      rw [hk]; rfl
  · (refine xB ?_)
    simp only [bs_size]
    refine wC (fun h1 => ?_) (fun h1 => ?_)
    · obtain ⟨hN, hA, hE⟩ := parNil (s := s) (by rw [longB, show decide (262144 < s.length) = true from decide_eq_true (by have := of_decide_eq_true h1; omega), Bool.true_or])
      (refine xG ?_)
      refine wD <| .inr ⟨rfl, ?_⟩
      rw [parX_nil hN, parC_nil hN, hA, hE]
      refine Ends.made (S' := ⟨[none, none, some (XV.val (.slice none 0 0)), some (XV.int .i64 0), some (XV.int .i64 3)] ++ List.replicate 56 none, [(4, .vec 9 1 (lineN s + 1) (strsF (cutAt 10 s)))], 5⟩) (.inr rfl) ?_ rfl (Nat.le_refl _) rfl
      ((try dsimp only); exact xE [0, 1, 2, 3, 4] hC)
    · (refine xG ?_)
      refine wC (fun h2 => ?_) (fun h2 => ?_)
      · obtain ⟨hN, hA, hE⟩ := parNil (s := s) (by rw [longB, show decide (1000 < knowN s) = true from decide_eq_true (by have := of_decide_eq_true h2; omega), Bool.or_true])
        (refine xG ?_)
        refine wD <| .inr ⟨rfl, ?_⟩
        rw [parX_nil hN, parC_nil hN, hA, hE]
        refine Ends.made (S' := ⟨[none, none, some (XV.val (.slice none 0 0)), some (XV.int .i64 0), some (XV.int .i64 3)] ++ List.replicate 56 none, [(4, .vec 9 1 (lineN s + 1) (strsF (cutAt 10 s)))], 5⟩) (.inr rfl) ?_ rfl (Nat.le_refl _) rfl
        ((try dsimp only); exact xE [0, 1, 2, 3, 4] hC)
      · have hL : longB s = false := by rw [longB, decide_eq_false (by have := of_decide_eq_false h1; omega), decide_eq_false (by have := of_decide_eq_false h2; omega)]; rfl
        (refine xG ?_)
        refine wD <| .inl ⟨rfl, ⟨hL⟩, ?_⟩
        ((try dsimp only); exact xE [0, 1, 2, 3, 4] hC)
  obtain ⟨hL⟩ := hL
  refine xK 1 ?_
  refine wD <| cutG <| Tri.seq ?_
  refine xK 1 ?_
  (repeat (refine wN ?_ ?_; exact xW; refine xG ?_))
  refine wD <| cutG <| Tri.block ?_
  refine Tri.loop (α := { i : Nat // i ≤ lineN s ∧ goodTo s i }) (fun i => parSt s t1 t2 p1 p2 i.1) (fun i => lineN s - i.1) ⟨0, Nat.zero_le _, fun k hk => absurd hk (Nat.not_lt_zero k)⟩ ?_ ?_
  · ((try dsimp only); exact xE [0, 1, 2, 3, 4] hC)
  rintro ⟨i, hi, hg⟩
  rcases i with _ | i
  · dsimp only [parSt]
    refine xK 2 ?_
    refine wC (fun h2 => ?_) (fun h2 => ?_)
    · have h2' : 0 < lineN s := by have := of_decide_eq_true h2; omega
      (refine xG ?_)
      refine wD <| cutG <| Tri.seq <| Tri.block ?_
      refine xK 1 ?_
      (repeat (refine wN ?_ ?_; exact xW; refine xG ?_))
      simp only [Nat.zero_add, Int.toNat_natCast]
      refine wD <| cutG ?_
      by_cases hb : chB (lineAt s (0)) = true
      · refine xI ?_
        (refine xB ?_)
        refine xC rfl Tryd.func20 rfl ((choice_good (s := lineAt s (0)) (Nat.le_trans (lineAt_len s _) hs) hb).at [1, 2, 3] (lends_raws [strV (lineAt s (0))]) ⟨lend_ext (c := 1) rfl rfl, lend_ext (c := 2) rfl rfl, lend_ext (c := 3) rfl rfl, trivial⟩) ?_
        (refine wP _ _ (boxSlice_op Tryd.T_ok rfl rfl rfl) ?_; refine xZ ?_)
        (refine wP _ _ (appendBox_op Tryd.T_ok rfl rfl rfl rfl rfl rfl rfl rfl (p := 12) rfl rfl rfl (by decide) (boxed_ch (lineAt s 0) 12)) ?_; refine xZ ?_)
        refine wD <| blockN <| cutG <| xI ?_
        (refine xB ?_)
        refine wD <| loopN ⟨⟨1, h2', fun k hk => by obtain rfl := Nat.lt_one_iff.1 hk; exact hb⟩, by dsimp only; omega, ?_⟩
        dsimp only [parSt]
        ((try dsimp only); refine Ent.renC [0, 1, 2, 3, 4, 24] hC ?_ ?_ <;> repeat' (first | exact trivial | exact rfl | exact ⟨_, rfl, rfl, rfl, Nat.le_refl _, fun _ _ => rfl⟩ | exact ⟨_, rfl, rfl, rfl, fun _ _ => rfl⟩ | exact ⟨_, rfl, rfl, rfl⟩ | exact ⟨_, rfl, rfl⟩ | refine ⟨_, rfl, rfl, rfl, by omega, fun k hk => ?_⟩ | refine ⟨?_, ?_⟩ | fail))
        exact deep_le fun j hj => by obtain rfl := Nat.lt_one_iff.1 hj; rfl
      · obtain ⟨a, b, c, d, e, f, g, n, hbad⟩ := choice_bad (s := lineAt s (0)) (t1 := t1) (t2 := t2) (p1 := p1) (p2 := p2) (Nat.le_trans (lineAt_len s _) hs) (by simpa using hb)
        obtain ⟨hN, hA, hE⟩ := parBad hL hg h2' (by simpa using hb)
        refine xI ?_
        (refine xB ?_)
        refine xC rfl Tryd.func20 rfl (hbad.at [1, 2, 3] (lends_raws [strV (lineAt s (0))]) ⟨lend_ext (c := 1) rfl rfl, lend_ext (c := 2) rfl rfl, lend_ext (c := 3) rfl rfl, trivial⟩) ?_
        have hw3 : IntKind.i64.wrap ((0 : Int) + 1) = ((0 + 1 : Nat) : Int) := xW
        rw [hw3]
        refine wD <| blockR <| cutR <| loopR <| blockR <| cutR <| ?_
        rw [parX_nil hN, parC_nil hN, hA, hE]
        refine Ends.made (S' := ⟨[none, none, some (XV.val (.slice none 0 0)), some (XV.int .i64 ((0 + 1 : Nat) : Int)), some (XV.int .i64 21)] ++ List.replicate 56 none, [(4, .vec 9 1 (lineN s + 1) (strsF (cutAt 10 s)))], 5⟩) (.inr rfl) ?_ rfl (Nat.le_refl _) rfl
        ((try dsimp only); exact xE [0, 1, 2, 3, 4] hC)
    · have h3 : 0 = lineN s := by have := of_decide_eq_false h2; omega
      (refine xG ?_)
      refine wD <| cutE <| loopX <| blockX <| cutG ?_
      rw [h3] at hg
      cases hr : restB s with
      | true =>
        obtain ⟨hN, hA, hE⟩ := parRest hL hg hr
        have hk : knowN s = lineN s + 1 := by rw [knowN, if_pos hr]
        simp only [hk]
        refine xI ?_
        (refine xB ?_)
        (refine wTd ?_ ?_; (first | refine decide_eq_true ?_ | rw [beq_iff_eq] | rw [bne_iff_ne]); exact xW; refine xG ?_)
        rw [parX_nil hN, parC_nil hN, hA, hE]
        refine wD <| Ends.made (S' := ⟨[none, none, some (XV.val (.slice none 0 0)), some (XV.int .i64 ((lineN s + 1 : Nat) : Int)), some (XV.int .i64 21)] ++ List.replicate 56 none, [(4, .vec 9 1 (lineN s + 1) (strsF (cutAt 10 s)))], 5⟩) (.inr rfl) ?_ rfl (Nat.le_refl _) rfl
        ((try dsimp only); exact xE [0, 1, 2, 3, 4] hC)
      | false =>
        obtain ⟨hN, hA, hE⟩ := parGood hL hg hr
        have hk : knowN s = lineN s := by rw [knowN, if_neg (by rw [hr]; decide)]
        simp only [hk]
        refine xI ?_
        (refine xB ?_)
        (refine wFd ?_ ?_; (first | refine decide_eq_false ?_ | rw [beq_eq_false_iff_ne] | rw [bne_eq_false_iff_eq]); exact xW; refine xG ?_)
        rw [← h3] at hN
        rw [parX_nil hN, parC_nil hN, hA, hE]
        refine wD <| Ends.made (S' := ⟨[none, none, some (XV.val (.slice none 0 0)), some (XV.int .i64 0), some (XV.int .i64 0)] ++ List.replicate 56 none, [(4, .vec 9 1 (lineN s + 1) (strsF (cutAt 10 s)))], 5⟩) (.inr rfl) ?_ rfl (Nat.le_refl _) rfl
        ((try dsimp only); exact xE [0, 1, 2, 3, 4] hC)
  · dsimp only [parSt]
    refine xK 2 ?_
    refine wC (fun h2 => ?_) (fun h2 => ?_)
    · have h2' : i + 1 < lineN s := by have := of_decide_eq_true h2; omega
      (refine xG ?_)
      refine wD <| cutG <| Tri.seq <| Tri.block ?_
      refine xK 1 ?_
      (repeat (refine wN ?_ ?_; exact xW; refine xG ?_))
      simp only [Nat.zero_add, Int.toNat_natCast]
      refine wD <| cutG ?_
      by_cases hb : chB (lineAt s (i + 1)) = true
      · refine xI ?_
        (refine xB ?_)
        refine xC rfl Tryd.func20 rfl ((choice_good (s := lineAt s (i + 1)) (Nat.le_trans (lineAt_len s _) hs) hb).at [1, 2, 3] (lends_raws [strV (lineAt s (i + 1))]) ⟨lend_ext (c := 1) rfl rfl, lend_ext (c := 2) rfl rfl, lend_ext (c := 3) rfl rfl, trivial⟩) ?_
        (refine wP _ _ (boxSlice_op Tryd.T_ok rfl rfl rfl) ?_; refine xZ ?_)
        (refine wP _ _ (appendBoxes_op Tryd.T_ok rfl rfl rfl rfl rfl rfl rfl rfl rfl (p := 13) rfl (by decide) (by decide) rfl rfl (by simp only [maxLen]; omega) (by dsimp only; omega) (boxed_ch (lineAt s (i + 1)) 13)) ?_; refine xZ ?_)
        have hw2 : IntKind.i64.wrap (((i + 1 : Nat) : Int) + 1) = ((i + 1 + 1 : Nat) : Int) := xW
        refine wD <| blockN <| cutG <| xI ?_
        (refine xB ?_)
        rw [hw2]
        refine wD <| loopN ⟨⟨i + 1 + 1, h2', fun k hk => ?_⟩, by dsimp only; omega, ?_⟩
        · by_cases e : k < i + 1
          · exact hg k e
          · obtain rfl : k = i + 1 := by omega
            exact hb
        dsimp only [parSt]
        ((try dsimp only); refine Ent.renC [0, 1, 2, 3, 4, 25] hC ?_ ?_ <;> repeat' (first | exact trivial | exact rfl | exact ⟨_, rfl, rfl, rfl, Nat.le_refl _, fun _ _ => rfl⟩ | exact ⟨_, rfl, rfl, rfl, fun _ _ => rfl⟩ | exact ⟨_, rfl, rfl, rfl⟩ | exact ⟨_, rfl, rfl⟩ | refine ⟨_, rfl, rfl, rfl, by omega, fun k hk => ?_⟩ | refine ⟨?_, ?_⟩ | fail))
        exact deep_le fun j hj => by
          by_cases e : j < i + 1
          · exact if_pos e
          · obtain rfl : j = i + 1 := by omega
            exact if_neg e
      · obtain ⟨a, b, c, d, e, f, g, n, hbad⟩ := choice_bad (s := lineAt s (i + 1)) (t1 := t1) (t2 := t2) (p1 := p1) (p2 := p2) (Nat.le_trans (lineAt_len s _) hs) (by simpa using hb)
        obtain ⟨hN, hA, hE⟩ := parBad hL hg h2' (by simpa using hb)
        refine xI ?_
        (refine xB ?_)
        refine xC rfl Tryd.func20 rfl (hbad.at [1, 2, 3] (lends_raws [strV (lineAt s (i + 1))]) ⟨lend_ext (c := 1) rfl rfl, lend_ext (c := 2) rfl rfl, lend_ext (c := 3) rfl rfl, trivial⟩) ?_
        have hw3 : IntKind.i64.wrap (((i + 1 : Nat) : Int) + 1) = ((i + 1 + 1 : Nat) : Int) := xW
        rw [hw3]
        refine wD <| blockR <| cutR <| loopR <| blockR <| cutR <| ?_
        rw [parX_nil hN, parC_nil hN, hA, hE]
        refine Ends.made (S' := ⟨[none, none, some (XV.val (.slice none 0 0)), some (XV.int .i64 ((i + 1 + 1 : Nat) : Int)), some (XV.int .i64 21)] ++ List.replicate 56 none, [(4, .vec 9 1 (lineN s + 1) (strsF (cutAt 10 s)))], 5⟩) (.inr rfl) ?_ rfl (Nat.le_refl _) rfl
        ((try dsimp only); exact xE [0, 1, 2, 3, 4] hC)
    · have h3 : i + 1 = lineN s := by have := of_decide_eq_false h2; omega
      (refine xG ?_)
      refine wD <| cutE <| loopX <| blockX <| cutG ?_
      rw [h3] at hg
      cases hr : restB s with
      | true =>
        obtain ⟨hN, hA, hE⟩ := parRest hL hg hr
        have hk : knowN s = lineN s + 1 := by rw [knowN, if_pos hr]
        simp only [hk]
        refine xI ?_
        (refine xB ?_)
        (refine wTd ?_ ?_; (first | refine decide_eq_true ?_ | rw [beq_iff_eq] | rw [bne_iff_ne]); exact xW; refine xG ?_)
        rw [parX_nil hN, parC_nil hN, hA, hE]
        refine wD <| Ends.made (S' := ⟨[none, none, some (XV.val (.slice none 0 0)), some (XV.int .i64 ((lineN s + 1 : Nat) : Int)), some (XV.int .i64 21)] ++ List.replicate 56 none, [(4, .vec 9 1 (lineN s + 1) (strsF (cutAt 10 s)))], 5⟩) (.inr rfl) ?_ rfl (Nat.le_refl _) rfl
        ((try dsimp only); exact xE [0, 1, 2, 3, 4] hC)
      | false =>
        obtain ⟨hN, hA, hE⟩ := parGood hL hg hr
        have hk : knowN s = lineN s := by rw [knowN, if_neg (by rw [hr]; decide)]
        simp only [hk]
        refine xI ?_
        (refine xB ?_)
        (refine wFd ?_ ?_; (first | refine decide_eq_false ?_ | rw [beq_eq_false_iff_ne] | rw [bne_eq_false_iff_eq]); exact xW; refine xG ?_)
        rw [← h3] at hN
        rw [parX_made hN, parC_made hN, hA, hE]
        refine wD <| Ends.made (S' := ⟨[none, none, some (XV.sv (.slc 4 8 0 (i + 1))), some (XV.int .i64 0), some (XV.int .i64 0)] ++ List.replicate 56 none, [(4, .abs (DeepP 45 8 (i + 1) fun i => chAC (lineAt s i)))], 5⟩) (.inr rfl) ?_ rfl (Nat.le_refl _) rfl
        ((try dsimp only); exact xE [0, 1, 2, 3, 5] hC)
set_option maxRecDepth 100000
open Go.Sx Go.RowKit
def dig10 : List UInt8 := [48, 49, 50, 51, 52, 53, 54, 55, 56, 57]
theorem dig10_at : ∀ d, d < 10 → (dig10.drop d).take (d + 1 - d) = [UInt8.ofNat (48 + d)] := by decide
theorem dec_step (u : Nat) (h : ¬ u < 10) : Lib.decDigits u = Lib.decDigits (u / 10) ++ [UInt8.ofNat (48 + u % 10)] := by rw [Lib.decDigits, dif_neg h]
theorem dec_last (u : Nat) (h : u < 10) : Lib.decDigits u = [UInt8.ofNat (48 + u)] := by rw [Lib.decDigits, dif_pos h]
def numSt (n : Int) (u : Nat) (x : Option XV) : St := ⟨[some (XV.int .i64 n), none, none, some (XV.int .u64 u), x] ++ List.replicate 23 none, [], 1⟩
theorem dec_len20 (u : Nat) (h : u < 18446744073709551616) : (Lib.decDigits u).length ≤ 20 := dec_len u 19 (Nat.lt_of_lt_of_le h (by decide))
theorem dig10_bs : (⟨#[48, 49, 50, 51, 52, 53, 54, 55, 56, 57]⟩ : ByteArray) = bs dig10 := rfl
set_option maxHeartbeats 1000000 in
theorem rnumber_can (n : Int) (h0 : -9223372036854775808 ≤ n) (h1 : n ≤ 9223372036854775807) : Reads Tryd.prog 16 (rawsD [.int .i64 n]) [] (XV.val (strV (Lib.itoa n))) := by
  refine Reads.of Tryd.T_ok Tryd.func16 rfl _ _ _ rfl rfl (fun C hC => ?_)
  (replace hC : C.n0 = 1 := hC; change Tri _ _ _ ⟨_, _, 1⟩ _)
  refine xK 2 ?_
  refine wD <| cutG <| Tri.merges (numSt n n.natAbs none) (xI ?_) ?_
  · (refine xB ?_)
    refine wC (fun h2 => ?_) (fun h2 => ?_)
    · have h2' : n < 0 := of_decide_eq_true h2
      (refine xG ?_)
      have hw : IntKind.u64.wrap (0 - IntKind.u64.wrap n) = (n.natAbs : Int) := xW
      rw [hw]
      refine wD <| .inl ⟨rfl, ?_⟩
      ((try dsimp only); exact xE [0] hC)
    · have h2' : ¬ n < 0 := of_decide_eq_false h2
      (refine xG ?_)
      have hw : IntKind.u64.wrap n = (n.natAbs : Int) := xW
      rw [hw]
      refine wD <| .inl ⟨rfl, ?_⟩
      ((try dsimp only); exact xE [0] hC)
  · refine xK 1 ?_
    refine wD <| cutG <| Tri.seq <| Tri.block ?_
    refine Tri.loop (α := { p : Nat × List UInt8 // p.1 < 18446744073709551616 ∧ Lib.decDigits n.natAbs = Lib.decDigits p.1 ++ p.2 }) (fun p => numSt n p.1.1 (some (XV.val (strV p.1.2)))) (fun p => p.1.1) ⟨(n.natAbs, []), by dsimp only; omega, (List.append_nil _).symm⟩ ?_ ?_
    · ((try dsimp only); exact xE [0] hC)
    rintro ⟨⟨u, l⟩, hu, hl⟩
    dsimp only at hu hl ⊢
    have hlen : l.length ≤ 20 := by
      have := dec_len20 n.natAbs (by omega)
      rw [hl, List.length_append] at this
      omega
    refine Tri.block ?_
    refine xK 1 ?_
    (repeat (refine wN ?_ ?_; exact xW; refine xG ?_))
    have e1 : Int.tmod (u : Int) 10 = ((u % 10 : Nat) : Int) := rfl
    have hd : u % 10 < 10 := Nat.mod_lt _ (by decide)
    have e2 : IntKind.u64.wrap (((u % 10 : Nat) : Int) + 1) = ((u % 10 + 1 : Nat) : Int) := xW
    simp only [e1, e2, Int.toNat_natCast, dig10_bs, bs_ext, dig10_at _ hd, strV]
    have hs1 : (bs [UInt8.ofNat (48 + u % 10)]).size + (bs l).size ≤ 9223372036854775807 := by
      rw [bs_size, bs_size, List.length_singleton]; omega
    refine wN ⟨by omega, by omega, by rw [bs_size]; show _ ≤ 10; omega⟩ ?_
    (refine xG ?_)
    refine wN hs1 ?_
    (refine xG ?_)
    simp only [bs_cat]
    refine wD <| cutG <| xI ?_
    (refine xB ?_)
    (repeat (refine wN ?_ ?_; exact xW; refine xG ?_))
    have e3 : IntKind.u64.wrap (Int.tdiv (u : Int) 10) = ((u / 10 : Nat) : Int) := by
      have : Int.tdiv (u : Int) 10 = ((u / 10 : Nat) : Int) := rfl
      rw [this]; exact xW
    rw [e3]
    refine wC (fun h2 => ?_) (fun h2 => ?_)
    · have h2' : u < 10 := by have := eq_of_beq h2; omega
      (refine xG ?_)
      have hfin : [UInt8.ofNat (48 + u % 10)] ++ l = Lib.decDigits n.natAbs := by rw [hl, dec_last u h2', Nat.mod_eq_of_lt h2']
      rw [hfin]
      refine wD <| blockY (id := 1) (id' := 0) rfl <| loopX <| blockX <| cutG <| xI ?_
      (refine xB ?_)
      have hl20 := dec_len20 n.natAbs (by omega)
      refine wC (fun h3 => ?_) (fun h3 => ?_)
      · have h3' : n < 0 := of_decide_eq_true h3
        (refine xG ?_)
        have hs2 : (⟨#[45]⟩ : ByteArray).size + (bs (Lib.decDigits n.natAbs)).size ≤ 9223372036854775807 := by
          show (bs [45]).size + (bs _).size ≤ _; rw [bs_size, bs_size, List.length_singleton]; omega
        refine wN hs2 ?_
        (refine xG ?_)
        rw [show Lib.itoa n = 45 :: Lib.decDigits n.natAbs from if_pos h3']
        exact wD <| Ends.plain (.inr rfl) rfl (congrArg (fun b => XV.val (.string b)) (bs_cat [45] _))
      · have h3' : ¬ n < 0 := of_decide_eq_false h3
        (refine xG ?_)
        rw [show Lib.itoa n = Lib.decDigits n.natAbs by rw [Lib.itoa, if_neg h3', show n.toNat = n.natAbs by omega]]
        exact wD <| Ends.plain (.inr rfl) rfl rfl
    · have h2' : ¬ u < 10 := by have := beq_eq_false_iff_ne.1 h2; omega
      (refine xG ?_)
      refine wD <| blockN <| loopN ⟨⟨(u / 10, [UInt8.ofNat (48 + u % 10)] ++ l), by dsimp only; omega, by dsimp only; rw [hl, dec_step u h2', List.append_assoc]⟩, by dsimp only; omega, ?_⟩
      ((try dsimp only); exact xE [0] hC)
set_option maxRecDepth 100000
open Go.Sx Go.RowKit
theorem dig16_at : ∀ d, d < 16 → (hexDig.drop d).take (d + 1 - d) = [hx d] := by decide
theorem dig16_bs : (⟨#[48, 49, 50, 51, 52, 53, 54, 55, 56, 57, 97, 98, 99, 100, 101, 102]⟩ : ByteArray) = bs hexDig := rfl
def wrkL (u j : Nat) : List UInt8 := hexK j (u / 16 ^ (16 - j))
theorem wrkL_step (u : Nat) {j : Nat} (h : j < 16) : wrkL u (j + 1) = wrkL u j ++ [hx (u / 2 ^ (60 - 4 * j) % 16)] := by
  have e1 : (2 : Nat) ^ (60 - 4 * j) = 16 ^ (15 - j) := by rw [show 60 - 4 * j = 4 * (15 - j) by omega, Nat.pow_mul]
  have e2 : (16 : Nat) ^ (16 - j) = 16 ^ (15 - j) * 16 := by rw [← Nat.pow_succ]; congr 1; omega
  rw [wrkL, wrkL, show 16 - (j + 1) = 15 - j by omega, hexK, e1, e2, Nat.div_div_eq_div_mul]
theorem wrkL_len (u j : Nat) : (wrkL u j).length = j := hexK_len _ _
def wrkSt (u j : Nat) : St := ⟨[some (XV.val (flt u)), none, none, some (XV.int .u64 u), some (XV.val (strV (wrkL u j))), some (XV.int .i64 (60 - 4 * j))] ++ List.replicate 24 none, [], 1⟩
set_option maxHeartbeats 1000000 in
theorem rwork_can (u : Nat) (hu : u < 18446744073709551616) : Reads Tryd.prog 17 (rawsD [flt u]) [] (XV.val (strV (fltL u))) := by
  refine Reads.of Tryd.T_ok Tryd.func17 rfl _ _ _ rfl rfl (fun C hC => ?_)
  (replace hC : C.n0 = 1 := hC; change Tri _ _ _ ⟨_, _, 1⟩ _)
  refine xK 2 ?_
  change wpN _ _ _ _ (Node.cond (isNan u) _ _)
  refine wC (fun h1 => ?_) (fun h1 => ?_)
  · (refine xG ?_)
    rw [show fltL u = nanT from if_pos h1]
    exact wD <| cutR <| Ends.plain (.inr rfl) rfl rfl
  · (refine xG ?_)
    rw [show fltL u = wrkL u 16 by rw [fltL, h1, wrkL, Nat.sub_self, Nat.pow_zero, Nat.div_one]; rfl]
    refine wD <| cutG ?_
    refine xK 2 ?_
    (refine wP _ _ (extern_op [.float .f64 u] rfl rfl rfl _ rfl (bits_run _)) ?_; refine xZ ?_)
    refine wD <| cutG <| Tri.seq ?_
    refine xK 1 ?_
    refine wD <| cutG <| Tri.block ?_
    refine Tri.loop (α := { j : Nat // j ≤ 16 }) (fun j => wrkSt u j.1) (fun j => 16 - j.1) ⟨0, Nat.zero_le _⟩ ?_ ?_
    · ((try dsimp only); exact xE [0] hC)
    rintro ⟨j, hj⟩
    dsimp only
    have hlen := wrkL_len u j
    refine xK 1 ?_
    refine wC (fun h2 => ?_) (fun h2 => ?_)
    · have h2' : j < 16 := xW
      (refine xG ?_)
      refine wD <| cutG <| Tri.seq <| Tri.block <| xI ?_
      (refine xB ?_)
      (repeat (refine wN ?_ ?_; exact xW; refine xG ?_))
      obtain ⟨d, hd⟩ : ∃ d, u / 2 ^ (60 - 4 * j) % 16 = d := ⟨_, rfl⟩
      have hd16 : d < 16 := by rw [← hd]; exact Nat.mod_lt _ (by decide)
      have hq : bitI .and .u64 (shrI .u64 (u : Int) (IntKind.u64.wrap (60 - 4 * (j : Int)))) 15 = (d : Int) := by
        have e1 : IntKind.u64.wrap (60 - 4 * (j : Int)) = ((60 - 4 * j : Nat) : Int) := xW
        have hb : u / 2 ^ (60 - 4 * j) < 18446744073709551616 := Nat.lt_of_le_of_lt (Nat.div_le_self _ _) hu
        rw [e1, shrN u (60 - 4 * j) (by show _ ≤ 64; omega), ← hd, ← and15]
        exact and64 hb (show 15 < 18446744073709551616 by decide)
      have hw3 : IntKind.u64.wrap ((d : Int) + 1) = ((d + 1 : Nat) : Int) := xW
      simp only [hq, hw3, Int.toNat_natCast, dig16_bs, bs_ext, dig16_at _ hd16, strV]
      refine wN ⟨by omega, by omega, by rw [bs_size]; show _ ≤ 16; omega⟩ ?_
      (refine xG ?_)
      have hs1 : (bs (wrkL u j)).size + (bs [hx d]).size ≤ 9223372036854775807 := by
        rw [bs_size, bs_size, hlen, List.length_singleton]; omega
      refine wN hs1 ?_
      (refine xG ?_)
      rw [bs_cat, ← hd, ← wrkL_step u h2']
      refine wD <| blockN <| cutG <| xI ?_
      (refine xB ?_)
      have hw4 : IntKind.i64.wrap (60 - 4 * (j : Int) - 4) = 60 - 4 * ((j + 1 : Nat) : Int) := xW
      rw [hw4]
      refine wD <| loopN ⟨⟨j + 1, h2'⟩, by dsimp only; omega, ?_⟩
      ((try dsimp only); exact xE [0] hC)
    · have h2' : j = 16 := xW
      subst h2'
      (refine xG ?_)
      refine wD <| cutE <| loopX <| blockX <| cutG <| xI ?_
      (refine xB ?_)
      exact wD <| Ends.plain (.inr rfl) rfl rfl
def datSt (l : List UInt8) (i : Nat) : St := ⟨[some (XV.sv (.slc 0 1 0 l.length)), none, none, some (XV.val (strV (hexs (l.take i)))), some (XV.int .i64 i)] ++ List.replicate 37 none, [(0, .ro 1 l.length (rowB l))], 1⟩
theorem hexs_app : ∀ (l r : List UInt8), hexs (l ++ r) = hexs l ++ hexs r
  | [], r => rfl
  | x :: l, r => by simp [hexs, hexs_app l r]
theorem hexs_snoc (l : List UInt8) {i : Nat} (h : i < l.length) : hexs (l.take (i + 1)) = hexs (l.take i) ++ [hx ((l.getD i 0).toNat / 16)] ++ [hx ((l.getD i 0).toNat % 16)] := by
  have e : l.getD i 0 = l[i] := by rw [List.getD_eq_getElem?_getD, List.getElem?_eq_getElem h]; rfl
  rw [List.take_succ_eq_append_getElem h, hexs_app, e, List.append_assoc]
  rfl
set_option maxHeartbeats 1000000 in
theorem rdata_can (l : List UInt8) (hl : l.length ≤ 1000000) : Reads Tryd.prog 18 [.row 1 l.length (rowB l)] [] (XV.val (strV (datL l))) := by
  refine Reads.of Tryd.T_ok Tryd.func18 rfl _ _ _ rfl rfl (fun C hC => ?_)
  (replace hC : C.n0 = 1 := hC; change Tri _ _ _ ⟨_, _, 1⟩ _)
  refine xK 2 ?_
  refine wC (fun h1 => ?_) (fun h1 => ?_)
  · have h0 : l = [] := List.length_eq_zero_iff.1 (by have := eq_of_beq h1; omega)
    subst h0
    (refine xG ?_)
    exact wD <| cutR <| Ends.plain (.inr rfl) rfl rfl
  · have h0 : l ≠ [] := fun e => by rw [e] at h1; exact absurd h1 (by decide)
    (refine xG ?_)
    rw [show datL l = hexs l from if_neg h0]
    refine wD <| cutG ?_
    refine xK 1 ?_
    refine wD <| cutG <| Tri.seq ?_
    refine xK 1 ?_
    refine wD <| cutG <| Tri.block ?_
    refine Tri.loop (α := { i : Nat // i ≤ l.length }) (fun i => datSt l i.1) (fun i => l.length - i.1) ⟨0, Nat.zero_le _⟩ ?_ ?_
    · ((try dsimp only); exact xE [0] hC)
    rintro ⟨i, hi⟩
    dsimp only
    refine xK 1 ?_
    refine wC (fun h2 => ?_) (fun h2 => ?_)
    · have h2' : i < l.length := xW
      (refine xG ?_)
      refine wD <| cutG <| Tri.seq <| Tri.block <| xI ?_
      (refine xB ?_)
      (repeat (refine wN ?_ ?_; exact xW; refine xG ?_))
      simp only [Nat.zero_add, Int.toNat_natCast]
      have hst := hexs_snoc l h2'
      have hlen : (hexs (l.take i)).length ≤ 2000000 := by rw [hexs_len, List.length_take]; omega
      obtain ⟨x, hxe⟩ : ∃ x, l.getD i 0 = x := ⟨_, rfl⟩
      rw [hxe] at hst
      have hx8 := x.toNat_lt
      have hq1 : shrI .u8 (x.toNat : Int) 4 = ((x.toNat / 16 : Nat) : Int) := shrN x.toNat 4 (by decide)
      have hq2 : bitI .and .u8 (x.toNat : Int) 15 = ((x.toNat % 16 : Nat) : Int) := by rw [← and15]; exact and8 (by omega) (show 15 < 256 by decide)
      have hd1 : x.toNat / 16 < 16 := by omega
      have hd2 : x.toNat % 16 < 16 := by omega
      have hw1 : IntKind.u8.wrap (((x.toNat / 16 : Nat) : Int) + 1) = ((x.toNat / 16 + 1 : Nat) : Int) := xW
      have hw2 : IntKind.u8.wrap (((x.toNat % 16 : Nat) : Int) + 1) = ((x.toNat % 16 + 1 : Nat) : Int) := xW
      simp only [hxe, hq1, hw1, Int.toNat_natCast, dig16_bs, bs_ext, dig16_at _ hd1, strV]
      refine wN ⟨by omega, by omega, by rw [bs_size]; show _ ≤ 16; omega⟩ ?_
      (refine xG ?_)
      have hs1 : (bs (hexs (l.take i))).size + (bs [hx (x.toNat / 16)]).size ≤ 9223372036854775807 := by
        rw [bs_size, bs_size, List.length_singleton]; omega
      refine wN hs1 ?_
      (refine xG ?_)
      (repeat (refine wN ?_ ?_; exact xW; refine xG ?_))
      simp only [Nat.zero_add, hxe, hq2, hw2, Int.toNat_natCast, dig16_bs, bs_ext, dig16_at _ hd2, bs_cat]
      refine wN ⟨by omega, by omega, by rw [bs_size]; show _ ≤ 16; omega⟩ ?_
      (refine xG ?_)
      have hs2 : (bs (hexs (l.take i) ++ [hx (x.toNat / 16)])).size + (bs [hx (x.toNat % 16)]).size ≤ 9223372036854775807 := by
        rw [bs_size, bs_size, List.length_append, List.length_singleton, List.length_singleton]; omega
      refine wN hs2 ?_
      (refine xG ?_)
      rw [bs_cat, ← hst]
      have hw3 : IntKind.i64.wrap ((i : Int) + 1) = ((i + 1 : Nat) : Int) := xW
      refine wD <| blockN <| cutG <| xI ?_
      (refine xB ?_)
      rw [hw3]
      refine wD <| loopN ⟨⟨i + 1, h2'⟩, by dsimp only; omega, ?_⟩
      ((try dsimp only); exact xE [0] hC)
    · have h2' : i = l.length := xW
      subst h2'
      (refine xG ?_)
      rw [List.take_length]
      refine wD <| cutE <| loopX <| blockX <| cutG <| xI ?_
      (refine xB ?_)
      exact wD <| Ends.plain (.inr rfl) rfl rfl
set_option maxRecDepth 100000
open Go.Sx Go.RowKit
structure ChR where
  (kd who dst side n m : Int)
  work : Nat
  data : List UInt8
  deriving Inhabited
def ChR.ac (c : ChR) : List AC := [.raw (.int .i64 c.kd), .raw (.int .i64 c.who), .raw (.int .i64 c.dst), .raw (.int .i64 c.side), .raw (.int .i64 c.n), .raw (.int .i64 c.m), .raw (flt c.work), .row 1 c.data.length (rowB c.data)]
def inI (n : Int) : Prop := -9223372036854775808 ≤ n ∧ n ≤ 9223372036854775807
structure ChR.Fine (c : ChR) : Prop where
  who : inI c.who
  dst : inI c.dst
  side : inI c.side
  n : inI c.n
  m : inI c.m
  work : c.work < 18446744073709551616
  data : c.data.length ≤ maxLen
def verbB (k : Int) : Bool := decide (1 ≤ k ∧ k ≤ 14)
def verbL (k : Int) : List UInt8 := if verbB k = true then wordsL.getD (k.toNat - 1) [] else []
theorem words_have : ∀ i, i < 14 → (wordsL.getD i []).length ≤ 7 ∧ wordsL.getD i [] ≠ [] ∧ ∀ c ∈ wordsL.getD i [], c ≠ 10 ∧ c ≠ 32 := by decide
theorem verbL_len (k : Int) : (verbL k).length ≤ 7 := by
  unfold verbL
  split
  · rename_i h
    have := of_decide_eq_true h
    exact (words_have (k.toNat - 1) (by omega)).1
  · exact Nat.zero_le _
theorem verbL_nil (k : Int) : decide (verbL k = []) = !verbB k := by
  unfold verbL
  split
  · rename_i h
    have := of_decide_eq_true h
    rw [h, decide_eq_false (words_have (k.toNat - 1) (by omega)).2.1]; rfl
  · rename_i h
    simp [h]
def verbSt (k : Int) : St := ⟨[some (XV.int .i64 k), none, some (XV.val (.string ⟨#[]⟩)), some (XV.sv (.slc 1 1 0 14))] ++ List.replicate 12 none, [(1, .vec 9 1 14 (strsF wordsL))], 2⟩
set_option maxHeartbeats 1000000 in
theorem verb_can (k : Int) : Reads Tryd.prog 15 (rawsD [.int .i64 k]) [] (XV.val (strV (verbL k))) := by
  refine Reads.of Tryd.T_ok Tryd.func15 rfl _ _ _ rfl rfl (fun C hC => ?_)
  (replace hC : C.n0 = 1 := hC; change Tri _ _ _ ⟨_, _, 1⟩ _)
  refine xK 2 ?_
  refine wD <| cutG <| Tri.ent (S' := verbSt k) ?_ (xI ?_)
  · ((try dsimp only); refine Ent.renC [0, 2] hC ?_ ?_ <;> repeat' (first | exact trivial | exact rfl | exact ⟨_, rfl, rfl, rfl, Nat.le_refl _, fun _ _ => rfl⟩ | exact ⟨_, rfl, rfl, rfl, fun _ _ => rfl⟩ | exact ⟨_, rfl, rfl, rfl⟩ | exact ⟨_, rfl, rfl⟩ | refine ⟨_, rfl, rfl, rfl, by omega, fun k hk => ?_⟩ | refine ⟨?_, ?_⟩ | fail))
    exact words_row _ hk
  (refine xB ?_)
  refine wC (fun h1 => ?_) (fun h1 => ?_)
  · have h1' : k < 1 := of_decide_eq_true h1
    (refine xG ?_)
    rw [show verbL k = [] by rw [verbL, if_neg (by rw [verbB, decide_eq_true_iff]; omega)]]
    exact wD <| Ends.plain (.inr rfl) rfl rfl
  · have h1' : ¬ k < 1 := of_decide_eq_false h1
    (refine xG ?_)
    refine wC (fun h2 => ?_) (fun h2 => ?_)
    · have h2' : 14 < k := of_decide_eq_true h2
      (refine xG ?_)
      rw [show verbL k = [] by rw [verbL, if_neg (by rw [verbB, decide_eq_true_iff]; omega)]]
      exact wD <| Ends.plain (.inr rfl) rfl rfl
    · have h2' : ¬ 14 < k := of_decide_eq_false h2
      (refine xG ?_)
      have hw : IntKind.i64.wrap (k - 1) = ((k.toNat - 1 : Nat) : Int) := xW
      simp only [hw]
      (repeat (refine wN ?_ ?_; exact xW; refine xG ?_))
      rw [show verbL k = wordsL.getD (k.toNat - 1) [] by rw [verbL, if_pos (by rw [verbB, decide_eq_true_iff]; omega)]]
      simp only [Nat.zero_add, Int.toNat_natCast]
      exact wD <| Ends.plain (.inr rfl) rfl rfl
def sumW (l : List ChR) : Nat → Int
  | 0 => 0
  | i + 1 => IntKind.i64.wrap (sumW l i + ((l.getD i default).data.length : Int))
def fewB (l : List ChR) (most : Int) : Bool := decide ((l.length : Int) ≤ most) && decide (sumW l l.length ≤ 3000)
def fewSt (l : List ChR) (ad : Nat → Nat → Option Addr × Nat) (most : Int) (i : Nat) : St :=
  ⟨[some (XV.sv (.slc 0 8 0 l.length)), some (XV.int .i64 most), none, none, none, some (XV.int .i64 (sumW l i)), some (XV.int .i64 i)] ++ List.replicate 22 none, [(0, .ro 8 l.length fun k => fillA 0 (l.getD k default).ac (ad k)), (1, .ext (PartsE l.length (fun i => (l.getD i default).ac) ad))], 3⟩
set_option maxHeartbeats 1000000 in
theorem few_can (l : List ChR) (ad : Nat → Nat → Option Addr × Nat) (most : Int) (hl : l.length ≤ maxLen) : Reads Tryd.prog 8 [.deep 8 l.length (fun i => (l.getD i default).ac) ad, .plain (.one (.raw (.int .i64 most)))] [] (XV.bool (fewB l most)) := by
  refine Reads.of Tryd.T_ok Tryd.func8 rfl _ _ _ rfl rfl (fun C hC => ?_)
  (replace hC : C.n0 = 3 := hC; change Tri _ _ _ ⟨_, _, 3⟩ _)
  simp only [maxLen] at hl
  refine xK 2 ?_
  refine wD <| cutG <| Tri.seq ?_
  refine xK 1 ?_
  refine wD <| cutG <| Tri.block ?_
  refine Tri.loop (α := { i : Nat // i ≤ l.length }) (fun i => fewSt l ad most i.1) (fun i => l.length - i.1) ⟨0, Nat.zero_le _⟩ ?_ ?_
  · ((try dsimp only); exact xE [0, 1, 2] hC)
  rintro ⟨i, hi⟩
  dsimp only
  refine xK 1 ?_
  refine wC (fun h2 => ?_) (fun h2 => ?_)
  · have h2' : i < l.length := xW
    (refine xG ?_)
    refine wD <| cutG <| Tri.seq <| Tri.block <| xI ?_
    (refine xB ?_)
    (repeat (refine wN ?_ ?_; exact xW; refine xG ?_))
    simp only [Nat.zero_add, Int.toNat_natCast]
    have hw : IntKind.i64.wrap ((i : Int) + 1) = ((i + 1 : Nat) : Int) := xW
    refine wD <| blockN <| cutG <| xI ?_
    (refine xB ?_)
    rw [hw]
    refine wD <| loopN ⟨⟨i + 1, h2'⟩, by dsimp only; omega, ?_⟩
    ((try dsimp only); exact xE [0, 1, 2] hC)
  · have h2' : i = l.length := xW
    subst h2'
    (refine xG ?_)
    refine wD <| cutE <| loopX <| blockX <| cutG <| xI ?_
    (refine xB ?_)
    refine wC (fun h3 => ?_) (fun h3 => ?_)
    · (refine xG ?_)
      rw [show fewB l most = decide (sumW l l.length ≤ 3000) by rw [fewB, h3, Bool.true_and]]
      exact wD <| Ends.plain (.inr rfl) rfl rfl
    · (refine xG ?_)
      rw [show fewB l most = false by rw [fewB, h3, Bool.false_and]]
      exact wD <| Ends.plain (.inr rfl) rfl rfl
def lineR (c : ChR) : List UInt8 :=
  ((((((((((((((verbL c.kd ++ [32]) ++ Lib.itoa c.who) ++ [32]) ++ Lib.itoa c.dst) ++ [32]) ++ Lib.itoa c.side) ++ [32]) ++ Lib.itoa c.n) ++ [32]) ++ Lib.itoa c.m) ++ [32]) ++ fltL c.work) ++ [32]) ++ datL c.data) ++ [10]
theorem lineR_len {c : ChR} (h : c.Fine) (hd : c.data.length ≤ 262144) : (lineR c).length ≤ 600000 := by
  have h0 := verbL_len c.kd
  have h1 := itoa_len c.who h.who.1 h.who.2
  have h2 := itoa_len c.dst h.dst.1 h.dst.2
  have h3 := itoa_len c.side h.side.1 h.side.2
  have h4 := itoa_len c.n h.n.1 h.n.2
  have h5 := itoa_len c.m h.m.1 h.m.2
  have h6 := fltL_len c.work
  have h7 := datL_len c.data
  simp only [lineR, List.length_append, List.length_singleton]
  omega
def prStep (c : ChR) (p : List UInt8 × Bool) : Option (List UInt8 × Bool) :=
  if verbB c.kd = true then (if p.2 = true ∨ 262144 < c.data.length then some (p.1, true) else some (p.1 ++ lineR c, decide (262144 < p.1.length + (lineR c).length))) else none
def prAt (l : List ChR) : Nat → Option (List UInt8 × Bool)
  | 0 => some ([], decide (1000 < l.length))
  | i + 1 => (prAt l i).bind (prStep (l.getD i default))
theorem prAt_none {l : List ChR} {i : Nat} (h : prAt l i = none) : ∀ {j}, i ≤ j → prAt l j = none := by
  intro j hj
  induction j with
  | zero => rw [Nat.le_zero.1 hj] at h; exact h
  | succ j ih =>
    by_cases e : i = j + 1
    · rw [← e]; exact h
    · rw [prAt, ih (by omega)]; rfl
def prT (l : List ChR) : List UInt8 := match prAt l l.length with | some (o, false) => o | _ => []
def prE (l : List ChR) : Int := match prAt l l.length with | some (_, false) => 0 | some (_, true) => 3 | none => 1
theorem b32 : (⟨#[32]⟩ : ByteArray) = bs [32] := rfl
theorem b10 : (⟨#[10]⟩ : ByteArray) = bs [10] := rfl
theorem line_bs (c : ChR) : (bs (verbL c.kd) ++ ⟨#[32]⟩ ++ bs (Lib.itoa c.who) ++ ⟨#[32]⟩ ++ bs (Lib.itoa c.dst) ++ ⟨#[32]⟩ ++ bs (Lib.itoa c.side) ++ ⟨#[32]⟩ ++ bs (Lib.itoa c.n) ++ ⟨#[32]⟩ ++ bs (Lib.itoa c.m) ++ ⟨#[32]⟩ ++ bs (fltL c.work) ++ ⟨#[32]⟩ ++ bs (datL c.data) ++ ⟨#[10]⟩ : ByteArray) = bs (lineR c) := by
  simp only [b32, b10, bs_cat]
  rfl
def prM (l : List ChR) (ad : Nat → Nat → Option Addr × Nat) : Mem := [(0, .ro 8 l.length fun k => fillA 0 (l.getD k default).ac (ad k)), (1, .ext (PartsE l.length (fun i => (l.getD i default).ac) ad))]
def prSt (l : List ChR) (ad : Nat → Nat → Option Addr × Nat) (i : Nat) (o : List UInt8) (b : Bool) : St :=
  ⟨[some (XV.sv (.slc 0 8 0 l.length)), none, some (XV.val (.string ⟨#[]⟩)), some (XV.int .i64 0), some (XV.val (strV o)), some (XV.bool b), some (XV.int .i64 i)] ++ List.replicate 76 none, prM l ad, 2⟩
set_option maxHeartbeats 4000000 in
theorem rprint_can (l : List ChR) (ad : Nat → Nat → Option Addr × Nat) (hl : l.length ≤ maxLen) (hf : ∀ i, i < l.length → (l.getD i default).Fine) : Reads Tryd.prog 9 [.deep 8 l.length (fun i => (l.getD i default).ac) ad] [] (.tup [.one (.raw (strV (prT l))), .one (.raw (.int .i64 (prE l)))]) := by
  refine Reads.of Tryd.T_ok Tryd.func9 rfl _ _ _ rfl rfl (fun C hC => ?_)
  (replace hC : C.n0 = 2 := hC; change Tri _ _ _ ⟨_, _, 2⟩ _)
  simp only [maxLen] at hl
  refine xK 3 ?_
  refine wD <| cutG <| Tri.seq ?_
  refine xK 1 ?_
  refine wD <| cutG <| Tri.block ?_
  refine Tri.loop (α := { p : Nat × List UInt8 × Bool // p.1 ≤ l.length ∧ prAt l p.1 = some p.2 ∧ (p.2.2 = false → p.2.1.length ≤ 262144) }) (fun p => prSt l ad p.1.1 p.1.2.1 p.1.2.2) (fun p => l.length - p.1.1) ⟨(0, [], decide (1000 < l.length)), Nat.zero_le _, rfl, fun _ => Nat.zero_le _⟩ ?_ ?_
  · ((try dsimp only); refine Ent.renC [0, 1] hC ?_ ?_ <;> repeat' (first | exact trivial | exact rfl | exact ⟨_, rfl, rfl, rfl, Nat.le_refl _, fun _ _ => rfl⟩ | exact ⟨_, rfl, rfl, rfl, fun _ _ => rfl⟩ | exact ⟨_, rfl, rfl, rfl⟩ | exact ⟨_, rfl, rfl⟩ | refine ⟨_, rfl, rfl, rfl, by omega, fun k hk => ?_⟩ | refine ⟨?_, ?_⟩ | fail))
    exact congrArg (fun b => some (XV.bool b)) (decide_eq_decide.2 (by omega))
  rintro ⟨⟨i, o, b⟩, hi, hp, ho⟩
  dsimp only at hi hp ho ⊢
  refine xK 1 ?_
  refine wC (fun h2 => ?_) (fun h2 => ?_)
  · have h2' : i < l.length := xW
    (refine xG ?_)
    refine wD <| cutG <| Tri.seq <| Tri.block ?_
    refine xK 2 ?_
    (repeat (refine wN ?_ ?_; exact xW; refine xG ?_))
    simp only [Nat.zero_add, Int.toNat_natCast]
    have hc := hf i h2'
    obtain ⟨c, e⟩ : ∃ c, l.getD i default = c := ⟨_, rfl⟩
    have hst : prAt l (i + 1) = prStep c (o, b) := by rw [prAt, hp, e]; rfl
    simp only [e] at hc ⊢
    have hw : IntKind.i64.wrap ((i : Int) + 1) = ((i + 1 : Nat) : Int) := xW
    refine xC rfl Tryd.func15 rfl ((verb_can c.kd).at [] (lends_raws [.int .i64 c.kd]) trivial) ?_
    refine wD <| cutG ?_
    refine xK 1 ?_
    change wpN _ _ _ _ (Node.cond (decide (bs (verbL c.kd) = bs [])) _ _)
    rw [str_is, verbL_nil]
    refine wC (fun h3 => ?_) (fun h3 => ?_)
    · have hv : verbB c.kd = false := by rw [← Bool.not_not (verbB c.kd), h3]; rfl
      have hn : prAt l l.length = none := prAt_none (i := i + 1) (by rw [hst, prStep, hv]; rfl) h2'
      (refine xG ?_)
      refine wD <| cutR <| blockR <| cutR <| loopR <| blockR <| cutR <| ?_
      exact Ends.plain (.inr rfl) rfl (by rw [prT, prE, hn]; rfl)
    · have hv : verbB c.kd = true := by rw [← Bool.not_not (verbB c.kd), h3]; rfl
      (refine xG ?_)
      refine wD <| cutG ?_
      refine xK 2 ?_
      refine wC (fun h4 => ?_) (fun h4 => ?_)
      · subst h4
        have hst' : prAt l (i + 1) = some (o, true) := by rw [hst, prStep, if_pos hv, if_pos (.inl rfl)]
        (refine xG ?_)
        refine wD <| cutE <| blockX <| cutG <| xI ?_
        (refine xB ?_)
        rw [hw]
        refine wD <| loopN ⟨⟨(i + 1, o, true), h2', hst', fun h => by cases h⟩, by dsimp only; omega, ?_⟩
        ((try dsimp only); exact xE [0, 1] hC)
      · subst h4
        (refine xG ?_)
        refine wC (fun h5 => ?_) (fun h5 => ?_)
        · have h5' : 262144 < c.data.length := by have := of_decide_eq_true h5; omega
          have hst' : prAt l (i + 1) = some (o, true) := by rw [hst, prStep, if_pos hv, if_pos (.inr h5')]
          (refine xG ?_)
          refine wD <| cutE <| blockX <| cutG <| xI ?_
          (refine xB ?_)
          rw [hw]
          refine wD <| loopN ⟨⟨(i + 1, o, true), h2', hst', fun h => by cases h⟩, by dsimp only; omega, ?_⟩
          ((try dsimp only); refine Ent.renC [0, 1] hC ?_ ?_ <;> repeat' (first | exact trivial | exact rfl | exact ⟨_, rfl, rfl, rfl, Nat.le_refl _, fun _ _ => rfl⟩ | exact ⟨_, rfl, rfl, rfl, fun _ _ => rfl⟩ | exact ⟨_, rfl, rfl, rfl⟩ | exact ⟨_, rfl, rfl⟩ | refine ⟨_, rfl, rfl, rfl, by omega, fun k hk => ?_⟩ | refine ⟨?_, ?_⟩ | fail))
          rw [h5]; rfl
        · have h5' : ¬ 262144 < c.data.length := by have := of_decide_eq_false h5; omega
          have hst' : prAt l (i + 1) = some (o ++ lineR c, decide (262144 < o.length + (lineR c).length)) := by
            rw [hst, prStep, if_pos hv, if_neg (by simp only [Bool.false_eq_true, false_or]; exact h5')]
          have ho' := ho rfl
          (refine xG ?_)
          refine wD <| cutG ?_
          refine xK 1 ?_
          have h60 := verbL_len c.kd
          have h61 := itoa_len c.who hc.who.1 hc.who.2
          have h62 := itoa_len c.dst hc.dst.1 hc.dst.2
          have h63 := itoa_len c.side hc.side.1 hc.side.2
          have h64 := itoa_len c.n hc.n.1 hc.n.2
          have h65 := itoa_len c.m hc.m.1 hc.m.2
          have h66 := fltL_len c.work
          have h67 := datL_len c.data
          refine wN (by simp only [ByteArray.size_append, bs_size, List.length_cons, List.length_nil]; omega) ?_
          (refine xG ?_)
          refine xC rfl Tryd.func16 rfl ((rnumber_can c.who hc.who.1 hc.who.2).at [] (lends_raws [.int .i64 c.who]) trivial) ?_
          refine wN (by simp only [ByteArray.size_append, bs_size, List.length_cons, List.length_nil]; omega) ?_
          (refine xG ?_)
          refine wN (by simp only [ByteArray.size_append, bs_size, List.length_cons, List.length_nil]; omega) ?_
          (refine xG ?_)
          refine xC rfl Tryd.func16 rfl ((rnumber_can c.dst hc.dst.1 hc.dst.2).at [] (lends_raws [.int .i64 c.dst]) trivial) ?_
          refine wN (by simp only [ByteArray.size_append, bs_size, List.length_cons, List.length_nil]; omega) ?_
          (refine xG ?_)
          refine wN (by simp only [ByteArray.size_append, bs_size, List.length_cons, List.length_nil]; omega) ?_
          (refine xG ?_)
          refine xC rfl Tryd.func16 rfl ((rnumber_can c.side hc.side.1 hc.side.2).at [] (lends_raws [.int .i64 c.side]) trivial) ?_
          refine wN (by simp only [ByteArray.size_append, bs_size, List.length_cons, List.length_nil]; omega) ?_
          (refine xG ?_)
          refine wN (by simp only [ByteArray.size_append, bs_size, List.length_cons, List.length_nil]; omega) ?_
          (refine xG ?_)
          refine xC rfl Tryd.func16 rfl ((rnumber_can c.n hc.n.1 hc.n.2).at [] (lends_raws [.int .i64 c.n]) trivial) ?_
          refine wN (by simp only [ByteArray.size_append, bs_size, List.length_cons, List.length_nil]; omega) ?_
          (refine xG ?_)
          refine wN (by simp only [ByteArray.size_append, bs_size, List.length_cons, List.length_nil]; omega) ?_
          (refine xG ?_)
          refine xC rfl Tryd.func16 rfl ((rnumber_can c.m hc.m.1 hc.m.2).at [] (lends_raws [.int .i64 c.m]) trivial) ?_
          refine wN (by simp only [ByteArray.size_append, bs_size, List.length_cons, List.length_nil]; omega) ?_
          (refine xG ?_)
          refine wN (by simp only [ByteArray.size_append, bs_size, List.length_cons, List.length_nil]; omega) ?_
          (refine xG ?_)
          refine xC rfl Tryd.func17 rfl ((rwork_can c.work hc.work).at [] (lends_raws [flt c.work]) trivial) ?_
          refine wN (by simp only [ByteArray.size_append, bs_size, List.length_cons, List.length_nil]; omega) ?_
          (refine xG ?_)
          refine wN (by simp only [ByteArray.size_append, bs_size, List.length_cons, List.length_nil]; omega) ?_
          (refine xG ?_)
          refine xC rfl Tryd.func18 rfl ((rdata_can c.data (by omega)).at [1] ⟨lend_partE (q := 1) (i := i) (j := 7) rfl rfl h2' (by rw [e]; rfl), trivial⟩ trivial) ?_
          refine wN (by simp only [ByteArray.size_append, bs_size, List.length_cons, List.length_nil]; omega) ?_
          (refine xG ?_)
          refine wN (by simp only [ByteArray.size_append, bs_size, List.length_cons, List.length_nil]; omega) ?_
          (refine xG ?_)
          rw [line_bs c]
          have hll := lineR_len hc (by omega)
          refine wD <| cutG <| xI ?_
          (refine xB ?_)
          refine wN (by simp only [bs_size]; omega) ?_
          (refine xG ?_)
          simp only [bs_size, bs_cat]
          have hw5 : IntKind.i64.wrap ((o.length : Int) + ((lineR c).length : Int)) = ((o.length + (lineR c).length : Nat) : Int) := xW
          rw [hw5]
          obtain ⟨b', hb'⟩ : ∃ b', decide (262144 < o.length + (lineR c).length) = b' := ⟨_, rfl⟩
          have hb6 : decide ((262144 : Int) < ((o.length + (lineR c).length : Nat) : Int)) = b' := by rw [← hb']; exact decide_eq_decide.2 (by omega)
          rw [hb'] at hst'
          rw [hb6]
          have hb7 : b' = false → (o ++ lineR c).length ≤ 262144 := fun h => by
            rw [h] at hb'
            have := of_decide_eq_false hb'
            rw [List.length_append]; omega
          clear hb' hb6 hst h5
          generalize lineR c = lc at *
          refine wD <| blockN <| cutG <| xI ?_
          (refine xB ?_)
          rw [hw]
          refine wD <| loopN ⟨⟨(i + 1, o ++ lc, b'), h2', hst', hb7⟩, by dsimp only; omega, ?_⟩
          ((try dsimp only); exact xE [0, 1] hC)
  · have h2' : i = l.length := xW
    subst h2'
    (refine xG ?_)
    refine wD <| cutE <| loopX <| blockX <| cutG <| xI ?_
    (refine xB ?_)
    refine wC (fun hb => ?_) (fun hb => ?_)
    · subst hb
      (refine xG ?_)
      exact wD <| Ends.plain (.inr rfl) rfl (by rw [prT, prE, hp]; rfl)
    · subst hb
      (refine xG ?_)
      exact wD <| Ends.plain (.inr rfl) rfl (by rw [prT, prE, hp])
end Go.Proofs.YtdeodhahkjgfiaaDoor
