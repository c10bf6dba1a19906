/- Parts SxE SxF SxG SxH. -/
import Derived.Test.YtdeodhahkjgfiaaDoorG00
set_option linter.unusedSimpArgs false
set_option linter.unusedVariables false
namespace Go.Sx
open Go.RowKit
theorem Rec.ok_mono {p q : Nat → Bool} (h : ∀ c, p c = true → q c = true) {d : Nat} {x : Rec} (hx : x.ok p d = true) : x.ok q d = true := by
  simp only [Rec.ok, Bool.and_eq_true, List.all_eq_true] at hx ⊢
  obtain ⟨⟨⟨h1, h2⟩, h3⟩, h4⟩ := hx
  exact ⟨⟨⟨XV.ok_mono h h1, fun y hy => ⟨(h2 y hy).1, Chunk.ok_mono h (h2 y hy).2⟩⟩, fun c hc => ⟨(h3 c hc).1, h _ (h3 c hc).2⟩⟩, h _ h4⟩
theorem filter_lt {p q : Nat → Bool} : ∀ (l : List Nat), (∀ x ∈ l, q x = true → p x = true) → ∀ i, i ∈ l → p i = true → q i = false → (l.filter q).length < (l.filter p).length
  | [], _, i, hi, _, _ => by cases hi
  | x :: r, h, i, hi, hp, hq => by
    have le : (r.filter q).length ≤ (r.filter p).length := by
      have : ∀ l : List Nat, (∀ x ∈ l, q x = true → p x = true) → (l.filter q).length ≤ (l.filter p).length := by
        intro l
        induction l with
        | nil => intro _; simp
        | cons y l ih =>
          intro h
          have ih' := ih (fun z hz => h z (by simp [hz]))
          have hy := h y (by simp)
          simp only [List.filter_cons]
          cases hqy : q y <;> cases hpy : p y <;> simp_all <;> omega
      exact this r (fun z hz => h z (by simp [hz]))
    rcases List.mem_cons.1 hi with rfl | hi
    · simp only [List.filter_cons, hp, hq, if_true, Bool.false_eq_true, if_false, List.length_cons]
      omega
    · have ih := filter_lt r (fun z hz => h z (by simp [hz])) i hi hp hq
      have hx := h x (by simp)
      simp only [List.filter_cons]
      cases hqx : q x <;> cases hpx : p x <;> simp_all <;> omega
section
variable {P : Program} {C : Ctx} {Q : Exit → St → Prop} {ops : Array Oper} {b : Nat} {S0 : St}
theorem tr_run {S' : St} : ∀ (l : List Oper) (i : Nat) (pre rs : List Rec), Tr P ops b l i (runD ops (pre ++ rs) S0 (fun _ => true) i) rs S' → pre.length = i → (∀ j, l[j]? = ops[i + j]?) → i + l.length = ops.size →
    (∀ j, i ≤ j → ∀ o, ops[j]? = some o → ∃ x, (pre ++ rs)[j]? = some x ∧ StepOK P ops b j (runD ops (pre ++ rs) S0 (fun _ => true) j) o x) ∧ S' = runD ops (pre ++ rs) S0 (fun _ => true) ops.size
  | [], i, pre, rs, h, hp, hl, hlen => by
    obtain ⟨rfl, rfl⟩ := h
    simp only [List.length_nil, Nat.add_zero] at hlen
    subst hlen
    refine ⟨fun j hj o ho => ?_, rfl⟩
    have := (Array.getElem?_eq_some_iff.1 ho).1
    omega
  | o :: l, i, pre, rs, h, hp, hl, hlen => by
    obtain ⟨x, rest, rfl, hx, htr⟩ := h
    have ho : ops[i]? = some o := by have := hl 0; simpa using this.symm
    have hxi : (pre ++ x :: rest)[i]? = some x := by rw [List.getElem?_append_right (by omega)]; simp [hp]
    have e : (pre ++ [x]) ++ rest = pre ++ x :: rest := by simp
    have hrun : runD ops (pre ++ x :: rest) S0 (fun _ => true) (i + 1) = (runD ops (pre ++ x :: rest) S0 (fun _ => true) i).app o.dst x.r := by
      simp only [runD, if_true, ho, hxi]
    have ih := tr_run l (i + 1) (pre ++ [x]) rest (by rw [e, hrun]; exact htr) (by simp [hp]) (fun j => by have := hl (j + 1); simpa [Nat.add_assoc, Nat.add_comm 1] using this) (by simp only [List.length_cons] at hlen; omega)
    rw [e] at ih
    refine ⟨fun j hj o' ho' => ?_, ih.2⟩
    by_cases hji : j = i
    · subst hji
      rw [ho] at ho'
      cases ho'
      exact ⟨x, hxi, hx⟩
    · exact ih.1 j (by omega) o' ho'
theorem runD_sok {recs : List Rec} (H : Ordered ops recs b) {D : Nat → Bool} (hD : Closed ops D) (hS : SOK (fun c => Nat.blt c b) S0) : ∀ n, SOK (fun c => Nat.blt c b || (Nat.ble b c && D (c - b))) (runD ops recs S0 D n)
  | 0 => hS.mono (fun c hc => by simp only [hc, Bool.true_or])
  | n + 1 => by
    have ih := runD_sok H hD hS n
    simp only [runD]
    by_cases hDn : D n = true
    · simp only [hDn, if_true]
      split
      · rename_i o x ho hx
        obtain ⟨m, hm, hok⟩ := H.ok n o x ho hx
        refine SOK.app ih (fun c hc => hc) (Rec.ok_mono (fun c hc => ?_) hok) o.dst
        simp only [Bool.or_eq_true, Bool.and_eq_true, nbeq, decide_eq_true_eq] at hc ⊢
        rcases hc with hc | ⟨h1, hc | hc⟩
        · exact .inl hc
        · exact .inr ⟨h1, by rw [hc]; exact hDn⟩
        · exact .inr ⟨h1, hD.anc _ n o m ho (hD n o ho hDn) hm hc⟩
      · exact ih
    · simp only [hDn]
      exact ih
theorem ready_spec {md : Region.Mode} {listed : Array Bool} {i : Nat} (h : i ∈ Region.ready md ops listed) : i < ops.size ∧ listed.getD i true = false ∧ ∃ o, ops[i]? = some o ∧ ∀ e ∈ o.after.toList, Region.binds md e = true → listed.getD e.on false = true := by
  simp only [Region.ready, List.mem_filter, List.mem_range, Bool.and_eq_true, Bool.not_eq_true'] at h
  obtain ⟨h1, h2, h3⟩ := h
  have ho : ops[i]? = some ops[i] := by simp [h1]
  refine ⟨h1, h2, ops[i], ho, fun e he hb => ?_⟩
  simp only [ho, Option.map_some, Option.getD_some, Array.all_eq_true_iff_forall_mem] at h3
  have := h3 e (Array.mem_toList_iff.1 he)
  simpa [hb] using this
theorem any_sound {recs : List Rec} (H : Ordered ops recs b) (hn : C.n0 ≤ b) (hS0 : SOK (fun c => Nat.blt c b) S0)
    (hrun : ∀ (j : Nat) (o : Oper), ops[j]? = some o → ∃ x, recs[j]? = some x ∧ StepOK P ops b j (runD ops recs S0 (fun _ => true) j) o x)
    {Q' : Exit → Act → World → Prop} (hQ : ∀ a w, SatC C { runD ops recs S0 (fun _ => true) ops.size with nx := b + ops.size } a w → Q' .normal a w) :
    ∀ (fuel : Nat) (listed : Array Bool) (a : Act) (w : World), listed.size = ops.size → Closed ops (fun j => listed.getD j false) → ((List.range ops.size).filter fun i => !listed.getD i true).length ≤ fuel →
      (∃ β ow, Sat β ow w (runD ops recs S0 (fun j => listed.getD j false) ops.size) a ∧ Grow C β ow w ∧ OWN (fun c => Nat.blt c b || (Nat.ble b c && (Nat.blt (c - b) ops.size && listed.getD (c - b) false))) ow) → wpAny P .any ops Q' fuel listed a w := by
  have unl : ∀ (listed : Array Bool) (i : Nat), listed.size = ops.size → i < ops.size → (listed.getD i true = listed.getD i false) := by
    intro listed i hl hi
    simp [Array.getD, hl, hi]
  have fin : ∀ (listed : Array Bool) (a : Act) (w : World), listed.size = ops.size → (∀ j, j < ops.size → listed.getD j false = true) → (∃ β ow, Sat β ow w (runD ops recs S0 (fun j => listed.getD j false) ops.size) a ∧ Grow C β ow w ∧ OWN (fun c => Nat.blt c b || (Nat.ble b c && (Nat.blt (c - b) ops.size && listed.getD (c - b) false))) ow) → Q' .normal a w := by
    intro listed a w hl hall ⟨β, ow, h1, h2, h3⟩
    have e : runD ops recs S0 (fun j => listed.getD j false) ops.size = runD ops recs S0 (fun _ => true) ops.size := runD_congr _ (fun j hj => hall j hj)
    rw [e] at h1
    have hsk := runD_sok (S0 := S0) H (D := fun _ => true) (fun _ _ _ _ _ _ => rfl) hS0 ops.size
    have key : ∀ c, (Nat.blt c b || (Nat.ble b c && true)) = true → True := fun _ _ => trivial
    refine hQ a w ⟨β, ow, ⟨h1.defers, h1.size, h1.slots, h1.mem, h1.wf⟩, ?_, h2, by simp only; omega, h3.mono (fun c hc => by
      simp only [Bool.or_eq_true, Bool.and_eq_true, Nat.blt_eq, Nat.ble_eq] at hc ⊢
      omega)⟩
    have hD' : Closed ops (fun j => decide (j < ops.size)) := by
      intro j o ho hj k hk
      have h3 := H.edge j o ho k hk
      simp only [decide_eq_true_eq] at hj ⊢
      omega
    have hsk' := runD_sok (S0 := S0) H hD' hS0 ops.size
    have e2 : runD ops recs S0 (fun j => decide (j < ops.size)) ops.size = runD ops recs S0 (fun _ => true) ops.size := runD_congr _ (fun j hj => by simp [hj])
    rw [e2] at hsk'
    have hm := hsk'.mono (q := fun c => Nat.blt c (b + ops.size)) (fun c hc => by
      simp only [Bool.or_eq_true, Bool.and_eq_true, Nat.blt_eq, Nat.ble_eq, decide_eq_true_eq] at hc ⊢
      omega)
    exact ⟨hm.slots, hm.mem⟩
  have all_of_none : ∀ (listed : Array Bool), listed.size = ops.size → Closed ops (fun j => listed.getD j false) → Region.ready .any ops listed = [] → ∀ j, j < ops.size → listed.getD j false = true := by
    intro listed hl hc hr j
    induction j using Nat.strongRecOn with
    | _ j ih =>
      intro hj
      cases hb : listed.getD j false with
      | true => rfl
      | false =>
        exfalso
        have ho : ops[j]? = some ops[j] := by simp [hj]
        have : j ∈ Region.ready .any ops listed := by
          simp only [Region.ready, List.mem_filter, List.mem_range, Bool.and_eq_true, Bool.not_eq_true']
          refine ⟨hj, by rw [unl listed j hl hj]; exact hb, ?_⟩
          simp only [ho, Option.map_some, Option.getD_some, Array.all_eq_true_iff_forall_mem]
          intro e he
          cases hbi : Region.binds .any e with
          | false => rfl
          | true =>
            have hk : e.on ∈ edgesOf ops[j] := List.mem_map.2 ⟨e, List.mem_filter.2 ⟨Array.mem_toList_iff.2 he, hbi⟩, rfl⟩
            have hlt := H.edge j _ ho _ hk
            simpa using ih e.on hlt (by omega)
        rw [hr] at this
        cases this
  intro fuel
  induction fuel with
  | zero =>
    intro listed a w hl hc hf hinv
    have hnone : ∀ i, i < ops.size → listed.getD i true = true := by
      intro i hi
      cases hb : listed.getD i true with
      | true => rfl
      | false =>
        have : i ∈ (List.range ops.size).filter fun i => !listed.getD i true := List.mem_filter.2 ⟨List.mem_range.2 hi, by rw [hb]; rfl⟩
        rw [List.eq_nil_of_length_eq_zero (Nat.le_zero.1 hf)] at this
        cases this
    refine ⟨?_, fin listed a w hl (fun j hj => by rw [← unl listed j hl hj]; exact hnone j hj) hinv⟩
    rw [List.eq_nil_iff_forall_not_mem]
    intro i hi
    obtain ⟨h1, h2, _⟩ := ready_spec hi
    rw [hnone i h1] at h2
    cases h2
  | succ fuel ih =>
    intro listed a w hl hc hf hinv
    refine ⟨fun hr => fin listed a w hl (all_of_none listed hl hc hr) hinv, fun i hi => ?_⟩
    obtain ⟨h1, h2, o, ho, hed⟩ := ready_spec hi
    have h2' : listed.getD i false = false := by rw [← unl listed i hl h1]; exact h2
    obtain ⟨x, hx, hstep⟩ := hrun i o ho
    obtain ⟨β, ow, hsat, hgrow, hown⟩ := hinv
    have hpre : ∀ k ∈ edgesOf o, (fun j => listed.getD j false) k = true := by
      intro k hk
      obtain ⟨e, he, rfl⟩ := List.mem_map.1 hk
      obtain ⟨he1, he2⟩ := List.mem_filter.1 he
      exact hed e he1 he2
    obtain ⟨ag1, ag2⟩ := agree (S0 := S0) H hc ho hx h2' hpre ops.size (by omega)
    have hsk := runD_sok (S0 := S0) H hc hS0 ops.size
    have hne : ∀ c, (Nat.blt c b || (Nat.ble b c && listed.getD (c - b) false)) = true → c ≠ b + i := by
      intro c hcc e
      subst e
      simp only [Bool.or_eq_true, Bool.and_eq_true, Nat.blt_eq, Nat.ble_eq] at hcc
      rcases hcc with hcc | ⟨_, hcc⟩
      · omega
      · rw [show b + i - b = i by omega, h2'] at hcc
        cases hcc
    have hset : ∀ j, (listed.setIfInBounds i true).getD j false = if j = i then true else listed.getD j false := by
      intro j
      simp only [Array.getD_eq_getD_getElem?, Array.getElem?_setIfInBounds]
      by_cases hj : i = j
      · subst hj; simp [hl, h1]
      · have : ¬ j = i := fun e => hj e.symm
        simp [hj, this]
    have hclosed : Closed ops (fun j => (listed.setIfInBounds i true).getD j false) := by
      intro j oj hoj hj k hk
      simp only [hset] at hj ⊢
      by_cases hji : j = i
      · subst hji
        rw [ho] at hoj
        cases hoj
        have := hpre k hk
        split
        · rfl
        · exact this
      · rw [if_neg hji] at hj
        have := hc j oj hoj hj k hk
        split
        · rfl
        · exact this
    have hcnt : ((List.range ops.size).filter fun j => !(listed.setIfInBounds i true).getD j true).length ≤ fuel := by
      have := filter_lt (p := fun j => !listed.getD j true) (q := fun j => !(listed.setIfInBounds i true).getD j true) (List.range ops.size) (by
        intro j hj hq
        have hj' := List.mem_range.1 hj
        rw [unl _ j (by simp [hl]) hj', hset] at hq
        rw [unl _ j hl hj']
        split at hq
        · cases hq
        · exact hq) i (List.mem_range.2 h1) (by rw [h2]; rfl) (by rw [unl _ i (by simp [hl]) h1, hset]; simp)
      omega
    have hfun : (fun j => (listed.setIfInBounds i true).getD j false) = fun j => if j = i then true else listed.getD j false := funext hset
    have hup : ∀ c, (Nat.blt c b || (Nat.ble b c && (Nat.blt (c - b) ops.size && listed.getD (c - b) false))) = true → (Nat.blt c b || (Nat.ble b c && (Nat.blt (c - b) ops.size && (listed.setIfInBounds i true).getD (c - b) false))) = true := by
      intro c hcc
      simp only [Bool.or_eq_true, Bool.and_eq_true, hset] at hcc ⊢
      rcases hcc with hcc | ⟨e1, e2, e3⟩
      · exact .inl hcc
      · refine .inr ⟨e1, e2, ?_⟩
        split
        · rfl
        · exact e3
    have hdup : (Nat.blt (b + i) b || (Nat.ble b (b + i) && (Nat.blt (b + i - b) ops.size && (listed.setIfInBounds i true).getD (b + i - b) false))) = true := by
      simp only [Bool.or_eq_true, Bool.and_eq_true, hset, Nat.blt_eq, Nat.ble_eq]
      refine .inr ⟨by omega, by omega, ?_⟩
      rw [if_pos (by omega)]
    have go : ∀ β' ow' w' a', Sat β' ow' w' ((runD ops recs S0 (fun j => listed.getD j false) ops.size).app o.dst x.r) a' → Grow C β' ow' w' → OWN (fun c => Nat.blt c b || (Nat.ble b c && (Nat.blt (c - b) ops.size && (listed.setIfInBounds i true).getD (c - b) false))) ow' → wpAny P .any ops Q' fuel (listed.setIfInBounds i true) a' w' := by
      intro β' ow' w' a' hs hg hw'
      refine ih _ a' w' (by simp [hl]) hclosed hcnt ⟨β', ow', ?_, hg, hw'⟩
      rw [hfun]
      exact (insert_same (S0 := S0) H hc ho hx h2' ops.size h1).sat hs
    unfold wpOp
    simp only [ho]
    have hw := wanted_of (ops := ops) (S1 := runD ops recs S0 (fun _ => true) i) hsat ag1 hstep.guard
    by_cases hs : x.skip = true
    · rw [hs] at hw
      simp only [hw, Bool.not_true, Bool.false_eq_true, if_false]
      have hr := hstep.pass hs
      refine go β ow w _ ?_ hgrow (hown.mono hup)
      rw [hr]
      exact hsat.app hsk hne (r := skipRes) (Eff.refl hsat.wf (b + i)) rfl (fun c ch h => by simp [skipRes, Mem.get] at h)
    · have hs' : x.skip = false := by simpa using hs
      rw [hs'] at hw
      simp only [hw, Bool.not_false, if_true]
      refine .inl (hstep.run hs' β ow w a _ _ hsat.wf (fun k e => by
        have h5 := hown k _ e
        simp only [Bool.or_eq_true, Bool.and_eq_true, Nat.blt_eq, Nat.ble_eq] at h5
        rcases h5 with h5 | ⟨_, _, h5⟩
        · omega
        · rw [show b + i - b = i by omega, h2'] at h5; cases h5) ?_ ?_ ?_)
      · intro y hy X hX
        refine hsat.ev (x := y) ?_
        cases y with
        | tmp t =>
          have ht : t ∈ o.looksAt ops := by
            simp only [Oper.looksAt, List.mem_append, List.mem_filterMap]
            exact .inl ⟨.tmp t, Array.mem_toList_iff.2 hy, rfl⟩
          simp only [St.ev] at hX ⊢
          rw [ag1 t ht]; exact hX
        | _ => exact hX
      · intro c hcr ch hch
        exact hsat.mem c ch (by rw [ag2 c hcr]; exact hch)
      · intro β' ow' w' v E hv hu
        obtain ⟨m, hm, hok⟩ := H.ok i o x ho hx
        have hq : ∀ c, (Nat.blt c b || (Nat.ble b c && (Nat.beq (c - b) i || Nat.testBit m (c - b)))) = true → (Nat.blt c b || (Nat.ble b c && (Nat.blt (c - b) ops.size && (listed.setIfInBounds i true).getD (c - b) false))) = true := by
          intro c hcc
          simp only [Bool.or_eq_true, Bool.and_eq_true, nbeq, decide_eq_true_eq, hset, Nat.blt_eq] at hcc ⊢
          rcases hcc with hcc | ⟨e1, e2 | e2⟩
          · exact .inl hcc
          · exact .inr ⟨e1, by omega, by rw [if_pos e2]⟩
          · have e3 := hc.anc _ i o m ho hpre hm e2
            refine .inr ⟨e1, ?_, ?_⟩
            · have e4 := e3
              rcases Nat.lt_or_ge (c - b) ops.size with h' | h'
              · exact h'
              · simp [Array.getD, hl, Nat.not_lt.2 h'] at e4
            · split
              · rfl
              · exact e3
        have hwk := Rec.wr_ok (Rec.ok_mono hq hok)
        exact go β' ow' w' _ (hsat.app hsk hne E hv hu) (hgrow.eff E (by omega)) (hown.eff E hup hwk.1 hdup)
end
def evalRegion (step : Step) (ops : Array Oper) (draw : Bool) (S : St) (k : St → Tree) : Tree :=
  evalOps step ops S.nx ops.toList 0 S [] fun recs S' => natK (S.nx + ops.size) fun n =>
    match S' with
    | ⟨sl, m, _⟩ => bif draw then .need (orderB ops recs S.nx = true) (k ⟨sl, m, n⟩) else k ⟨sl, m, n⟩
theorem region_sound {P : Program} {C : Ctx} {Q : Exit → St → Prop} {step : Step} (hm : P.follows .mixedOrders = true) (hstep : StepSound P step) {id : Nat} {ops : Array Oper} {draw : Bool} {S : St} {k : St → Tree}
    (h : wpT P C Q (evalRegion step ops draw S k)) {a : Act} {w : World} (hs : SatC C S a w) {Q' : Exit → Act → World → Prop} (hQ : ∀ a' w' S', SatC C S' a' w' → wpT P C Q (k S') → Q' .normal a' w') : (Code.region id ops draw).wp P Q' a w := by
  obtain ⟨recs, S', htr, hk⟩ := evalOps_tr hstep _ _ _ _ _ h
  obtain ⟨β, ow, h1, h2, h3, h4, h5⟩ := hs
  simp only [List.reverse_nil, List.nil_append, natK_eq] at hk
  cases draw with
  | false =>
    simp only [cond_false] at hk
    refine wp_region ?_
    have := seq_sound (Q' := Q') (n := S.nx + ops.size) (C := C) h4 (Nat.le_refl _) ops.toList 0 S S' recs htr (fun j => by simp) (by simp) (fun a' w' hs' => hQ a' w' _ hs' hk) β ow a w h1 h2 h3 h5
    rwa [Array.length_toList, ← List.range_eq_range'] at this
  | true =>
    simp only [cond_true, wpT] at hk
    obtain ⟨hB, hk⟩ := hk
    have H := orderB_spec hB
    have hk := hk hB
    obtain ⟨hr1, hr2⟩ := tr_run (S0 := S) ops.toList 0 [] recs htr rfl (fun j => by simp) (by simp)
    simp only [List.nil_append] at hr1 hr2
    subst hr2
    refine wp_region_any hm (any_sound H h4 h2 (fun j o ho => hr1 j (Nat.zero_le _) o ho) (fun a' w' hs' => hQ a' w' _ hs' hk) ops.size _ a _ (by simp) ?_ (by
      refine Nat.le_trans (List.length_filter_le _ _) (by simp)) ?_)
    · intro j o ho hj
      simp [Array.getD] at hj
    · have e : runD ops recs S (fun j => (Array.replicate ops.size false).getD j false) ops.size = S :=
        (runD_stop 0 ops.size (Nat.zero_le _) (fun j _ hj => by simp [Array.getD, hj]))
      refine ⟨β, ow, ?_, ?_, h5.mono (fun c hc => by rw [hc, Bool.true_or])⟩
      · rw [e]
        exact ⟨h1.defers, h1.size, h1.slots, fun c ch hc => by
          have := h1.mem c ch hc
          cases ch with
          | cells e cs => exact this
          | vec e sz n f => exact this
          | ro sz n f => exact this
          | ext A => obtain ⟨O, k1, k2⟩ := this; exact ⟨O, k1, A.loc (w := w) (w' := { w with drawn := w.drawn + 1 }) (fun _ _ => rfl) k2⟩
          | abs A => exact ⟨this.1, this.2.1, A.loc (w := w) (w' := { w with drawn := w.drawn + 1 }) (fun _ _ => rfl) (fun _ => Iff.rfl) this.2.2⟩, h1.wf⟩
      · exact ⟨h3.os, h3.tape, h3.output, h3.size, h3.keep, h3.beta⟩
open Go.RowKit
section
variable {β : Nat → Loc}
theorem Rels.length : ∀ {ss : List SV} {vs : List Value}, Rels β ss vs → ss.length = vs.length
  | [], _, h => by cases h; rfl
  | s :: ss, vs, h => by obtain ⟨v, r, rfl, _, h2⟩ := h; simp [Rels.length h2]
theorem Rels.append : ∀ {a b : List SV} {x y : List Value}, Rels β a x → Rels β b y → Rels β (a ++ b) (x ++ y)
  | [], b, x, y, h, k => by cases h; exact k
  | s :: ss, b, x, y, h, k => by obtain ⟨v, r, rfl, h1, h2⟩ := h; exact ⟨v, r ++ y, rfl, h1, Rels.append h2 k⟩
theorem Rels.take : ∀ (n : Nat) {ss : List SV} {vs : List Value}, Rels β ss vs → Rels β (ss.take n) (vs.take n)
  | 0, _, _, _ => by simp [Rels]
  | n + 1, [], _, h => by cases h; simp [Rels]
  | n + 1, s :: ss, vs, h => by obtain ⟨v, r, rfl, h1, h2⟩ := h; exact ⟨v, r.take n, rfl, h1, Rels.take n h2⟩
theorem Rels.drop : ∀ (n : Nat) {ss : List SV} {vs : List Value}, Rels β ss vs → Rels β (ss.drop n) (vs.drop n)
  | 0, _, _, h => h
  | n + 1, [], _, h => by cases h; simp [Rels]
  | n + 1, s :: ss, vs, h => by obtain ⟨v, r, rfl, h1, h2⟩ := h; exact Rels.drop n h2
theorem Rels.get : ∀ {ss : List SV} {vs : List Value}, Rels β ss vs → ∀ (j : Nat) (s : SV), ss[j]? = some s → ∃ v, vs[j]? = some v ∧ s.rel β v
  | [], _, _, j, s, hs => by simp at hs
  | s0 :: ss, vs, h, 0, s, hs => by
    obtain ⟨v, r, rfl, h1, _⟩ := h
    simp only [List.getElem?_cons_zero, Option.some.injEq] at hs
    subst hs
    exact ⟨v, rfl, h1⟩
  | s0 :: ss, vs, h, j + 1, s, hs => by
    obtain ⟨v, r, rfl, _, h2⟩ := h
    exact Rels.get h2 j s (by simpa using hs)
theorem Rels.raw : ∀ (l : List Value), Rels β (l.map .raw) l
  | [] => rfl
  | x :: r => ⟨x, r, rfl, rfl, Rels.raw r⟩
theorem Rels.one : ∀ {ss : List SV} {vs : List Value}, Rels β ss vs → ss.all SV.one = true → ∀ v ∈ vs, v.oneCell' = true
  | [], _, h, _, v, hv => by cases h; cases hv
  | s :: ss, vs, h, hs, v, hv => by
    obtain ⟨v0, r, rfl, h1, h2⟩ := h
    simp only [List.all_cons, Bool.and_eq_true] at hs
    rcases List.mem_cons.1 hv with rfl | hv
    · cases s with
      | raw x => cases h1; exact hs.1
      | ptr c i sz j => cases h1; rfl
      | slc c sz lo len =>
        simp only [SV.rel] at h1
        split at h1
        · rw [h1.1]; rfl
        · obtain ⟨a, rfl, _⟩ := h1; rfl
      | map c => cases h1; rfl
      | inn c j => cases h1; rfl
      | sla c off sz len cap => obtain ⟨a, rfl, _⟩ := h1; rfl
      | ins c m j len =>
        simp only [SV.rel] at h1
        split at h1
        · rw [h1.1]; rfl
        · obtain ⟨a, rfl, _⟩ := h1; rfl
      | fn f caps => cases h1; rfl
    · exact Rels.one h2 hs.2 v hv
theorem CVs.get : ∀ {ss : List CV} {vs : List Value}, CVs β ss vs → ∀ (j : Nat) (s : CV), ss[j]? = some s → ∃ v, vs[j]? = some v ∧ s.rel β v
  | [], _, _, j, s, hs => by simp at hs
  | s0 :: ss, vs, h, 0, s, hs => by
    obtain ⟨v, r, rfl, h1, _⟩ := h
    simp only [List.getElem?_cons_zero, Option.some.injEq] at hs
    subst hs
    exact ⟨v, rfl, h1⟩
  | s0 :: ss, vs, h, j + 1, s, hs => by
    obtain ⟨v, r, rfl, _, h2⟩ := h
    exact CVs.get h2 j s (by simpa using hs)
end
def CV.cells : CV → List SV
  | .one s => [s]
  | .agg cs => cs
def CV.fine : CV → Bool
  | .one s => s.one
  | .agg cs => cs.all SV.one
theorem CV.rel_cells {β : Nat → Loc} {c : CV} {v : Value} (h : c.rel β v) (hf : c.fine = true) : Rels β c.cells v.cells.toList ∧ ∀ u ∈ v.cells.toList, u.oneCell' = true := by
  cases c with
  | one s =>
    have h1 : v.oneCell' = true := Rels.one (ss := [s]) (vs := [v]) ⟨v, [], rfl, h, rfl⟩ (by simpa [CV.fine] using hf) v (by simp)
    have hc : v.cells = #[v] := by cases v <;> first | rfl | simp [Value.oneCell'] at h1
    rw [hc]
    exact ⟨⟨v, [], rfl, h, rfl⟩, by simpa using h1⟩
  | agg cs =>
    obtain ⟨arr, rfl, h⟩ := h
    exact ⟨h, Rels.one h hf⟩
inductive Desc where
  | int (k : IntKind) | bool | str | ptr | slice (e : TypeId) | array (n : Nat) (e : TypeId) | struct (fs : List (TypeId × Nat)) | map (k e : TypeId) | other
structure TyD where
  size : Nat
  bytes : Nat
  agg : Bool
  zero : List Value
  desc : Desc
abbrev TyTab := TypeId → Option TyD
def DescOK : TypeDesc → Desc → Prop
  | .int k, .int k' => k = k'
  | .bool, .bool => True
  | .string, .str => True
  | .pointer _, .ptr => True
  | .slice e, .slice e' => e = e'
  | .array n e, .array n' e' => n = n' ∧ e = e'
  | .struct fs, .struct l => fs.toList.map (fun f => (f.type, f.offset)) = l
  | .map k e, .map k' e' => k = k' ∧ e = e'
  | _, .other => True
  | _, _ => False
def isAggD : TypeDesc → Bool
  | .struct _ | .array _ _ => true
  | _ => false
structure TyOK (P : Program) (t : TypeId) (d : TyD) : Prop where
  info : ∃ i u, P.info? t = some i ∧ P.underlying t = some u ∧ i.size = d.size ∧ i.bytes = d.bytes ∧ isAggD u = d.agg ∧ DescOK u d.desc ∧ (∃ z, i.zero = some z ∧ z.cells.toList = d.zero) ∧ d.zero.all (fun v => v.oneCell') = true
def TabOK (P : Program) (T : TyTab) : Prop := ∀ t d, T t = some d → TyOK P t d
def tlook : List (Nat × TyD) → TyTab
  | [], _ => none
  | (t, d) :: r, u => bif Nat.beq t u then some d else tlook r u
theorem tlook_ok {P : Program} : ∀ (l : List (Nat × TyD)), (∀ x ∈ l, TyOK P x.1 x.2) → TabOK P (tlook l)
  | [], _, t, d, h => by simp [tlook] at h
  | (t, d) :: r, hl, u, e, h => by
    simp only [tlook, nbeq] at h
    by_cases ht : t = u
    · simp only [ht, decide_true, cond_true, Option.some.injEq] at h
      subst h; subst ht
      exact hl (t, d) (by simp)
    · simp only [ht, decide_false, cond_false] at h
      exact tlook_ok r (fun x hx => hl x (by simp [hx])) u e h
def laid (cs : List SV) (off : Nat) (p : List SV) : List SV := cs.take off ++ (p ++ cs.drop (off + p.length))
theorem foldl_set (v : List Value) : ∀ (j off : Nat) (arr : Array Value), off + j + v.length ≤ arr.size →
    (((v.zipIdx j).foldl (fun (cs : Array Value) (x : Value × Nat) => cs.setIfInBounds (off + x.2) x.1) arr)).toList = arr.toList.take (off + j) ++ (v ++ arr.toList.drop (off + j + v.length)) := by
  induction v with
  | nil => intro j off arr h; simp
  | cons x r ih =>
    intro j off arr h
    simp only [List.length_cons] at h
    rw [List.zipIdx_cons, List.foldl_cons, ih (j + 1) off _ (by simp; omega)]
    simp only [Array.toList_setIfInBounds]
    have hlt : off + j < arr.toList.length := by simp; omega
    have e1 : (arr.toList.set (off + j) x).take (off + (j + 1)) = arr.toList.take (off + j) ++ [x] := by
      rw [show off + (j + 1) = off + j + 1 by omega, List.take_succ_eq_append_getElem (by simpa using hlt), List.take_set_of_le (Nat.le_refl _)]
      simp
    have e2 : (arr.toList.set (off + j) x).drop (off + (j + 1) + r.length) = arr.toList.drop (off + j + (x :: r).length) := by
      rw [List.drop_set_of_lt (by omega)]
      congr 1
      simp only [List.length_cons]; omega
    rw [e1, e2]
    simp
theorem fill_step {β : Nat → Loc} {cs p : List SV} {arr : Array Value} {v : Value} {off : Nat} (h : Rels β cs arr.toList) (hp : Rels β p v.cells.toList) (hfit : off + p.length ≤ cs.length) :
    Rels β (laid cs off p) (v.cells.zipIdx.foldl (fun (cs : Array Value) (x : Value × Nat) => cs.setIfInBounds (off + x.2) x.1) arr).toList := by
  have hl := h.length
  have hpl := hp.length
  have e := foldl_set v.cells.toList 0 off arr (by simp only [Nat.add_zero]; simp only [Array.length_toList] at hl hpl ⊢; omega)
  have e2 : v.cells.zipIdx.foldl (fun (cs : Array Value) (x : Value × Nat) => cs.setIfInBounds (off + x.2) x.1) arr = (v.cells.toList.zipIdx 0).foldl (fun (cs : Array Value) (x : Value × Nat) => cs.setIfInBounds (off + x.2) x.1) arr := by
    rw [← Array.foldl_toList, Array.toList_zipIdx]
  rw [e2, e]
  simp only [Nat.add_zero, laid]
  have : (v.cells.toList).length = p.length := hpl.symm
  rw [this]
  exact (h.take off).append (hp.append (h.drop _))
def fillX (T : TyTab) (place : Nat → Option (Nat × Nat)) (ev : Operand → Option XV) : List (Nat × Operand) → List SV → Option (List SV)
  | [], cs => some cs
  | (i, x) :: r, cs =>
    match place i, ev x with
    | some (off, size), some (.cv c) => bif (Nat.beq c.cells.length size && Nat.ble (off + c.cells.length) cs.length) && c.fine then fillX T place ev r (laid cs off c.cells) else none
    | _, _ => none
theorem laid_length {cs : List SV} {off : Nat} {p : List SV} (h : off + p.length ≤ cs.length) : (laid cs off p).length = cs.length := by
  simp only [laid, List.length_append, List.length_take, List.length_drop]; omega
theorem laid_one {cs : List SV} {off : Nat} {p : List SV} (h : cs.all SV.one = true) (hp : p.all SV.one = true) : (laid cs off p).all SV.one = true := by
  simp only [laid, List.all_append, Bool.and_eq_true, List.all_eq_true] at *
  exact ⟨fun x hx => h x (List.mem_of_mem_take hx), hp, fun x hx => h x (List.mem_of_mem_drop hx)⟩
theorem fillX_sound {T : TyTab} {β : Nat → Loc} {place : Nat → Option (Nat × Nat)} {ev : Operand → Option XV} {ρ : Operand → Value} : ∀ (parts : List (Nat × Operand)) (cs out : List SV) (arr : Array Value),
    (∀ x ∈ parts, ∀ X, ev x.2 = some X → X.rel β (ρ x.2)) → fillX T place ev parts cs = some out → Rels β cs arr.toList → cs.all SV.one = true → ∃ arr', Instr.fill place arr (parts.map fun x => (x.1, ρ x.2)) = some arr' ∧ Rels β out arr'.toList ∧ out.all SV.one = true
  | [], cs, out, arr, _, h, hr, ho => by
    simp only [fillX, Option.some.injEq] at h
    subst h
    exact ⟨arr, rfl, hr, ho⟩
  | (i, x) :: r, cs, out, arr, hev, h, hr, ho => by
    simp only [fillX] at h
    split at h
    · rename_i off size c h1 h2
      cases hb : ((Nat.beq c.cells.length size && Nat.ble (off + c.cells.length) cs.length) && c.fine) with
      | false => simp [hb] at h
      | true =>
        simp only [hb, cond_true] at h
        simp only [nbeq, Bool.and_eq_true, decide_eq_true_eq, Nat.ble_eq] at hb
        obtain ⟨⟨b1, b2⟩, b3⟩ := hb
        have hx : c.rel β (ρ x) := hev (i, x) (by simp) _ h2
        obtain ⟨hc, h1c⟩ := CV.rel_cells hx b3
        have hlc := hc.length
        have hlr := hr.length
        simp only [Array.length_toList] at hlc hlr
        have hone : c.cells.all SV.one = true := by cases c <;> simpa [CV.cells, CV.fine] using b3
        obtain ⟨arr', e1, e2, e3⟩ := fillX_sound r _ out _ (fun y hy => hev y (by simp [hy])) h (fill_step hr hc b2) (laid_one ho hone)
        refine ⟨arr', ?_, e2, e3⟩
        simp only [List.map_cons, Instr.fill, h1]
        rw [if_neg (by simp; omega)]
        exact e1
    · cases h
open Go.RowKit
section
variable {P : Program} {S : St} {d : Nat} {o : Oper}
theorem upon_value {a : Act} {w w' : World} {x : Value} {K : Act → World → Prop} {Q : Exit → Act → World → Prop} (h : (execOp a.eval o).run P w = .ok (.value x) w') (hK : K (a.put o.dst x) w') : o.wp P a w K Q := by
  unfold Oper.wp
  rw [h]
  exact hK
theorem upon_skip {a : Act} {w w' : World} {K : Act → World → Prop} {Q : Exit → Act → World → Prop} (h : (execOp a.eval o).run P w = .ok .skip w') (hK : K (a.put o.dst undef) w') : o.wp P a w K Q := by
  unfold Oper.wp
  rw [h]
  exact hK
theorem read_op {X : XV} {rd : List Nat} (h : ∀ β ow (w : World) (a : Act), WF ow w → (∀ x ∈ o.op.operands, ∀ X, S.ev x = some X → X.rel β (a.eval x)) → (∀ c ∈ rd, ∀ ch, S.mem.get c = some ch → Holds β ow w c ch) →
    ∃ x, (execOp a.eval o).run P w = .ok (.value x) w ∧ X.rel β x) : OpSound P S d o { v := X } rd := by
  intro β ow w a K Q hw _ hx hr hK
  obtain ⟨x, h1, h2⟩ := h β ow w a hw hx hr
  exact upon_value h1 (hK β ow w x (Eff.refl hw d) h2 (fun c ch h => by simp [Mem.get] at h))
def setβ (β : Nat → Loc) (d : Nat) (l : Loc) : Nat → Loc := fun c => if c = d then l else β c
def setow (ow : Nat → Option Nat) (k : Nat) (c : Option Nat) : Nat → Option Nat := fun j => if j = k then c else ow j
theorem Eff.alloc {β : Nat → Loc} {ow : Nat → Option Nat} {w : World} (hw : WF ow w) (d : Nat) (l : Loc) (ob : Obj) : Eff β ow w (setβ β d l) (setow ow w.heap.size (some d)) (w.alloc ob) [] d := by
  refine ⟨fun c hc => by simp [setβ, hc], rfl, rfl, rfl, by simp, fun k hk _ => ⟨Below.heap_alloc w ob k hk, by simp [setow, Nat.ne_of_lt hk]⟩, fun k hk c hc => ?_, fun k hk => ?_⟩
  · by_cases hks : k = w.heap.size
    · simp only [setow, hks, if_true, Option.some.injEq] at hc
      exact .inr hc.symm
    · simp only [setow, if_neg hks] at hc
      have := hw k (by simp [hc])
      rcases hk with hk | ⟨_, h0, _⟩
      · omega
      · cases h0
  · by_cases hks : k = w.heap.size
    · rw [hks]; simp
    · simp only [setow, if_neg hks] at hk
      have := hw k hk
      simp; omega
theorem alloc_op {e : TypeId} {cs : List SV} {X : XV} {L : World → Loc} (hL : ∀ w, (L w).blk = w.heap.size ∧ (L w).base = 0 ∧ (L w).nil = false)
    (hcs : cs.all (SV.ok (fun c => !Nat.beq c d)) = true) (h : ∀ β (w : World) (a : Act), (∀ x ∈ o.op.operands, ∀ X, S.ev x = some X → X.rel β (a.eval x)) →
      ∃ (x : Value) (arr : Array Value), (execOp a.eval o).run P w = .ok (.value x) (w.alloc (.cells arr e)) ∧ Rels β cs arr.toList ∧ X.rel (setβ β d (L w)) x) : OpSound P S d o { v := X, upd := [(d, .cells e cs)] } [] := by
  intro β ow w a K Q hw _ hx _ hK
  obtain ⟨x, arr, h1, h2, h3⟩ := h β w a hx
  refine upon_value h1 (hK _ _ _ x (Eff.alloc hw d (L w) _) h3 (fun c ch hc => ?_))
  simp only [Mem.get, nbeq] at hc
  by_cases hcd : d = c
  · subst hcd
    simp only [decide_true, cond_true, Option.some.injEq] at hc
    subst hc
    obtain ⟨l1, l2, l3⟩ := hL w
    have e1 : setβ β d (L w) d = L w := by simp [setβ]
    refine ⟨by rw [e1]; exact l3, by rw [e1]; exact l2, by rw [e1, l1]; simp [setow], arr, by rw [e1, l1]; exact heap_alloc_new w _, ?_⟩
    refine Rels.congr (p := fun c => !Nat.beq c d) (fun c hc => ?_) hcs h2
    simp only [nbeq, Bool.not_eq_true', decide_eq_false_iff_not] at hc
    simp [setβ, hc]
  · simp [hcd] at hc
theorem Eff.setRow {β : Nat → Loc} {ow : Nat → Option Nat} {w : World} (hw : WF ow w) (d c : Nat) {g : Nat} (hg : ow g = some c) (cs : Array Value) : Eff β ow w β ow (w.setRow g cs) [c] d := by
  refine ⟨fun _ _ => rfl, rfl, rfl, rfl, by simp, fun k hk hn => ⟨setRow_other w g k cs (fun e => hn c (by simp) (by rw [e]; exact hg)), rfl⟩, fun k hk c' hc => ?_, fun k hk => by simpa using hw k hk⟩
  rcases hk with hk | ⟨c0, h0, h1⟩
  · exact absurd (hw k (by simp [hc])) (by omega)
  · rw [h1] at hc
    cases hc
    exact .inl h0
end
def mkCV (agg : Bool) (sub : List SV) : Option CV :=
  match agg, sub with
  | true, _ => some (.agg sub)
  | false, [s] => some (.one s)
  | false, _ => none
def loadX (T : TyTab) (M : Mem) (t : TypeId) (s : SV) : Option (Option Prop × CV × Nat) :=
  match s with
  | .ptr c i sz j =>
    match T t, M.get c with
    | some td, some (.cells _ cs) =>
      let sub := (cs.drop (i * sz + j)).take td.size
      bif Nat.beq sub.length td.size then (match mkCV td.agg sub with | some v => some (none, v, c) | none => none) else none
    | some td, some (.vec _ sz' n f) | some td, some (.ro sz' n f) =>
      let sub := (((f i).drop j).take td.size).map SV.raw
      bif Nat.beq sub.length td.size && Nat.beq sz sz' then (match mkCV td.agg sub with | some v => some (some (i < n), v, c) | none => none) else none
    | _, _ => none
  | _ => none
section
variable {P : Program} {T : TyTab} {β : Nat → Loc} {w : World}
theorem loadVar_ok {t : TypeId} {td : TyD} (ht : TyOK P t td) {sub : List SV} {vs : List Value} (hr : Rels β sub vs) (hl : sub.length = td.size) {a : Addr} (hc : ∀ j v, vs[j]? = some v → w.cell? (a.add j) = some v) {v : CV} (hv : mkCV td.agg sub = some v) :
    ∃ x, (loadVar t a).run P w = .ok x w ∧ v.rel β x := by
  obtain ⟨i, u, h1, h2, h3, _, h5, _⟩ := ht.info
  have hagg : (isAgg t).run P w = .ok (isAggD u) w := by
    unfold isAgg
    rw [Sem.run_bind, run_underlying h2 w]
    cases u <;> rfl
  cases hb : td.agg with
  | true =>
    simp only [hb, mkCV, Option.some.injEq] at hv
    subst hv
    have hlc := run_loadCells_list (P := P) w a vs hc
    have hvl : vs.length = i.size := by rw [h3, ← hl]; exact hr.length.symm
    rw [hvl] at hlc
    refine ⟨.agg vs.toArray, ?_, vs.toArray, rfl, by simpa using hr⟩
    simp [loadVar, hagg, h5, hb, sizeOf, typeInfo, h1, hlc]
  | false =>
    rw [hb] at hv
    match sub, hv with
    | [s], hv =>
      simp only [mkCV, Option.some.injEq] at hv
      subst hv
      obtain ⟨x, r, rfl, hx, _⟩ := hr
      have := hc 0 x rfl
      simp only [Addr.add, if_true] at this
      exact ⟨x, by simp [loadVar, hagg, h5, hb, this], hx⟩
theorem loc_add (l : Loc) (n j : Nat) : (l.addr n).add j = l.addr (n + j) := by
  unfold Loc.addr Addr.add
  by_cases h : j = 0
  · simp [h]
  · simp [h, Nat.add_assoc]
theorem loadX_ok (hT : TabOK P T) {ow : Nat → Option Nat} {M : Mem} {t : TypeId} {s : SV} {np : Option Prop} {v : CV} {c : Nat} (h : loadX T M t s = some (np, v, c)) (hnp : ∀ p, np = some p → p) {x : Value} (hs : s.rel β x)
    (hh : ∀ ch, M.get c = some ch → Holds β ow w c ch) : ∃ y, (Instr.loadAt t x).run P w = .ok y w ∧ v.rel β y := by
  cases s with
  | ptr c0 i sz j =>
    simp only [SV.rel] at hs
    subst hs
    have go : ∀ td, T t = some td → ∀ sub vs, Rels β sub vs → sub.length = td.size → (∀ m v, vs[m]? = some v → w.cell? ((β c0).addr (i * sz + j + m)) = some v) → mkCV td.agg sub = some v →
        ∃ y, (Instr.loadAt t (.pointer (some ((β c0).addr (i * sz + j))))).run P w = .ok y w ∧ v.rel β y := by
      intro td htd sub vs h1 h2 h3 h4
      obtain ⟨y, h5, h6⟩ := loadVar_ok (w := w) (hT t td htd) h1 h2 (a := (β c0).addr (i * sz + j)) (fun m u hu => by rw [loc_add]; exact h3 m u hu) h4
      exact ⟨y, by simp [Instr.loadAt, Instr.sureAddr, h5], h6⟩
    simp only [loadX] at h
    split at h
    · rename_i td e cs h1 h2
      cases hb : Nat.beq ((cs.drop (i * sz + j)).take td.size).length td.size with
      | false => simp only [hb, cond_false] at h; cases h
      | true =>
        simp only [hb, cond_true] at h
        split at h
        · rename_i v' hv'
          simp only [Option.some.injEq, Prod.mk.injEq] at h
          obtain ⟨rfl, rfl, rfl⟩ := h
          obtain ⟨g1, g2, g3, arr, g4, g5⟩ := hh _ h2
          refine go td h1 _ _ ((g5.drop (i * sz + j)).take td.size) (Nat.eq_of_beq_eq_true hb) (fun m u hu => ?_) hv'
          simp only [Loc.addr, g2, Nat.zero_add]
          rw [cell_of_row w _ _ arr e _ g4]
          rw [List.getElem?_take] at hu
          split at hu
          · rw [List.getElem?_drop] at hu; simpa using hu
          · cases hu
        · cases h
    · rename_i td e sz' n f h1 h2
      cases hb : (Nat.beq ((((f i).drop j).take td.size).map SV.raw).length td.size && Nat.beq sz sz') with
      | false => simp only [hb, cond_false] at h; cases h
      | true =>
        simp only [hb, cond_true] at h
        split at h
        · rename_i v' hv'
          simp only [Option.some.injEq, Prod.mk.injEq] at h
          obtain ⟨rfl, rfl, rfl⟩ := h
          simp only [Bool.and_eq_true, nbeq, decide_eq_true_eq] at hb
          obtain ⟨b1, b2⟩ := hb
          subst b2
          have hi : i < n := hnp _ rfl
          have hc := hh _ h2
          simp only [Holds] at hc
          by_cases hn : (β c0).nil = true
          · rw [if_pos hn] at hc; omega
          · rw [if_neg hn] at hc
            obtain ⟨g1, g2, g3, g4, arr, g5, g6, g7⟩ := hc
            obtain ⟨g8, g9⟩ := g7 i hi
            refine go td h1 _ _ (Rels.raw _) b1 (fun m u hu => ?_) hv'
            simp only [Loc.addr, g1, Nat.zero_add]
            rw [cell_of_row w _ _ arr e _ g5]
            rw [List.getElem?_take] at hu
            split at hu
            · rw [List.getElem?_drop] at hu
              have := g9 (j + m) u hu
              rwa [← Nat.add_assoc] at this
            · cases hu
        · cases h
    · rename_i td sz' n f h1 h2
      cases hb : (Nat.beq ((((f i).drop j).take td.size).map SV.raw).length td.size && Nat.beq sz sz') with
      | false => simp only [hb, cond_false] at h; cases h
      | true =>
        simp only [hb, cond_true] at h
        split at h
        · rename_i v' hv'
          simp only [Option.some.injEq, Prod.mk.injEq] at h
          obtain ⟨rfl, rfl, rfl⟩ := h
          simp only [Bool.and_eq_true, nbeq, decide_eq_true_eq] at hb
          obtain ⟨b1, b2⟩ := hb
          subst b2
          have hi : i < n := hnp _ rfl
          have hc := hh _ h2
          simp only [Holds] at hc
          by_cases hn : (β c0).nil = true
          · rw [if_pos hn] at hc; omega
          · rw [if_neg hn] at hc
            obtain ⟨g1, g2, g3⟩ := hc
            obtain ⟨g8, g9⟩ := g3 i hi
            refine go td h1 _ _ (Rels.raw _) b1 (fun m u hu => ?_) hv'
            rw [List.getElem?_take] at hu
            split at hu
            · rw [List.getElem?_drop] at hu
              have := g9 (j + m) u hu
              rwa [← Nat.add_assoc] at this
            · cases hu
        · cases h
    · cases h
  | raw v => simp [loadX] at h
  | slc c sz lo len => simp [loadX] at h
  | map c => simp [loadX] at h
  | inn c j => simp [loadX] at h
  | sla c off sz len cap => simp [loadX] at h
  | ins c m j len => simp [loadX] at h
  | fn f caps => simp [loadX] at h
end
open Go.RowKit
def kn : IntKind → Nat
  | .i8 => 0 | .i16 => 1 | .i32 => 2 | .i64 => 3 | .u8 => 4 | .u16 => 5 | .u32 => 6 | .u64 => 7
theorem kn_inj {a b : IntKind} (h : Nat.beq (kn a) (kn b) = true) : a = b := by
  cases a <;> cases b <;> first | rfl | (simp [kn] at h)
def bitI (op : BinOp) (k : IntKind) (a b : Int) : Int :=
  match op with
  | .and => k.wrap ((BitVec.ofInt k.bits a &&& BitVec.ofInt k.bits b).toNat : Int)
  | .or => k.wrap ((BitVec.ofInt k.bits a ||| BitVec.ofInt k.bits b).toNat : Int)
  | .xor => k.wrap ((BitVec.ofInt k.bits a ^^^ BitVec.ofInt k.bits b).toNat : Int)
  | _ => k.wrap ((BitVec.ofInt k.bits a &&& ~~~BitVec.ofInt k.bits b).toNat : Int)
def shlI (k : IntKind) (a b : Int) : Int := k.wrap (a * 2 ^ (min b.toNat k.bits))
def shrI (k : IntKind) (a b : Int) : Int := a.fdiv (2 ^ (min b.toNat k.bits))
abbrev VRes := Option (Option Prop × Value)
def intX (op : BinOp) (k : IntKind) (a : Int) (k' : IntKind) (b : Int) : VRes :=
  match op with
  | .shl => some (some (0 ≤ b), .int k (shlI k a b))
  | .shr => some (some (0 ≤ b), .int k (shrI k a b))
  | op =>
    bif Nat.beq (kn k) (kn k') then
      match op with
      | .add => some (none, .int k (k.wrap (a + b)))
      | .sub => some (none, .int k (k.wrap (a - b)))
      | .mul => some (none, .int k (k.wrap (a * b)))
      | .quo => some (some (b ≠ 0), .int k (k.wrap (a.tdiv b)))
      | .rem => some (some (b ≠ 0), .int k (a.tmod b))
      | .and => some (none, .int k (bitI .and k a b))
      | .or => some (none, .int k (bitI .or k a b))
      | .xor => some (none, .int k (bitI .xor k a b))
      | .andNot => some (none, .int k (bitI .andNot k a b))
      | .eql => some (none, .bool (a == b))
      | .neq => some (none, .bool (a != b))
      | .lss => some (none, .bool (decide (a < b)))
      | .leq => some (none, .bool (decide (a ≤ b)))
      | .gtr => some (none, .bool (decide (b < a)))
      | .geq => some (none, .bool (decide (b ≤ a)))
      | _ => none
    else none
def isBool : Desc → Bool | .bool => true | _ => false
def isPtr : Desc → Bool | .ptr => true | _ => false
def isMap : Desc → Bool | .map _ _ => true | _ => false
def eqX (op : BinOp) (r : Bool) : VRes :=
  match op with
  | .eql => some (none, .bool r)
  | .neq => some (none, .bool (!r))
  | _ => none
def binX (T : TyTab) (op : BinOp) (t : TypeId) (x y : SV) : VRes :=
  match x, y with
  | .raw (.int k a), .raw (.int k' b) => intX op k a k' b
  | .raw (.bool a), .raw (.bool b) => match T t with | some td => bif isBool td.desc then eqX op (a == b) else none | none => none
  | .ptr _ _ _ _, .raw (.pointer none) => match T t with | some td => bif isPtr td.desc then eqX op false else none | none => none
  | .raw (.pointer none), .raw (.pointer none) => match T t with | some td => bif isPtr td.desc then eqX op true else none | none => none
  | .map _, .raw (.map none) => match T t with | some td => bif isMap td.desc then eqX op false else none | none => none
  | .raw (.map none), .raw (.map none) => match T t with | some td => bif isMap td.desc then eqX op true else none | none => none
  | _, _ => none
section
variable {P : Program} {T : TyTab} {w : World} {β : Nat → Loc}
theorem desc_under (hT : TabOK P T) {t : TypeId} {td : TyD} (h : T t = some td) : ∃ u, P.underlying t = some u ∧ DescOK u td.desc := by
  obtain ⟨i, u, _, h2, _, _, _, h6, _⟩ := (hT t td h).info
  exact ⟨u, h2, h6⟩
theorem under_bool (hT : TabOK P T) {t : TypeId} {td : TyD} (h : T t = some td) (hb : isBool td.desc = true) : P.underlying t = some .bool := by
  obtain ⟨u, h1, h2⟩ := desc_under hT h
  cases hd : td.desc <;> simp [hd, isBool] at hb
  rw [hd] at h2
  cases u <;> simp [DescOK] at h2
  exact h1
theorem under_ptr (hT : TabOK P T) {t : TypeId} {td : TyD} (h : T t = some td) (hb : isPtr td.desc = true) : ∃ e, P.underlying t = some (.pointer e) := by
  obtain ⟨u, h1, h2⟩ := desc_under hT h
  cases hd : td.desc <;> simp [hd, isPtr] at hb
  rw [hd] at h2
  cases u <;> simp [DescOK] at h2
  exact ⟨_, h1⟩
theorem under_map (hT : TabOK P T) {t : TypeId} {td : TyD} (h : T t = some td) (hb : isMap td.desc = true) : ∃ k e, P.underlying t = some (.map k e) := by
  obtain ⟨u, h1, h2⟩ := desc_under hT h
  cases hd : td.desc <;> simp [hd, isMap] at hb
  rw [hd] at h2
  cases u <;> simp [DescOK] at h2
  exact ⟨_, _, h1⟩
theorem intX_ok {op : BinOp} {k k' : IntKind} {a b : Int} {np : Option Prop} {v : Value} (h : intX op k a k' b = some (np, v)) (hnp : ∀ p, np = some p → p) (t : TypeId) : (binOp op t (.int k a) (.int k' b)).run P w = .ok v w := by
  have fin : ∀ (p : Option Prop) (u : Value), (some (p, u) : VRes) = some (np, v) → p = np ∧ u = v := by
    intro p u e; cases e; exact ⟨rfl, rfl⟩
  cases op <;> simp only [intX] at h <;> (try (split at h)) <;> try (cases hk : Nat.beq (kn k) (kn k') <;> simp only [hk, cond_false, cond_true] at h)
  all_goals first
    | (cases h; done)
    | (obtain ⟨rfl, rfl⟩ := fin _ _ h
       have hp := hnp
       first
         | (obtain rfl := kn_inj hk; simp [binOp, Op.intArith, Op.intBits, Op.intCmp, bitI]; done)
         | (obtain rfl := kn_inj hk; have h0 := hp _ rfl; simp [binOp, Op.intDiv, h0]; done)
         | (have h0 := hp _ rfl; simp [binOp, Op.shift, shlI, shrI, Int.not_lt.2 h0]; done))
theorem eqX_ok {op : BinOp} {r : Bool} {np : Option Prop} {v : Value} (h : eqX op r = some (np, v)) {t : TypeId} {x y : Value} (hx : ∀ k n, x ≠ .int k n) (hf : ∀ k n, x ≠ .float k n) (hc : ∀ k n m, x ≠ .complex k n m) (hs : ∀ s, x ≠ .string s)
    (he : (Op.equal t x y).run P w = .ok r w) : (binOp op t x y).run P w = .ok v w := by
  cases op <;> simp only [eqX] at h <;> cases h
  all_goals (cases x <;> first | exact absurd rfl (hx _ _) | exact absurd rfl (hf _ _) | exact absurd rfl (hc _ _ _) | exact absurd rfl (hs _) | (cases y <;> simp [binOp, he]))
theorem equal_bool {t : TypeId} (hu : P.underlying t = some .bool) (a b : Bool) : (Op.equal t (.bool a) (.bool b)).run P w = .ok (a == b) w := by
  have key : ∀ d, (Op.equalIn (d + 1) t (.bool a) (.bool b)).run P w = .ok (a == b) w := fun d => by simp [Op.equalIn, run_underlying hu]
  exact key 9999
theorem equal_ptr_nil {t e : TypeId} (hu : P.underlying t = some (.pointer e)) (a : Option Addr) : (Op.equal t (.pointer a) (.pointer none)).run P w = .ok a.isNone w := by
  have key : ∀ d, (Op.equalIn (d + 1) t (.pointer a) (.pointer none)).run P w = .ok a.isNone w := fun d => by cases a <;> simp [Op.equalIn, run_underlying hu]
  exact key 9999
theorem equal_map_nil {t k e : TypeId} (hu : P.underlying t = some (.map k e)) (a : Option Nat) : (Op.equal t (.map a) (.map none)).run P w = .ok a.isNone w := by
  have key : ∀ d, (Op.equalIn (d + 1) t (.map a) (.map none)).run P w = .ok a.isNone w := fun d => by cases a <;> simp [Op.equalIn, run_underlying hu]
  exact key 9999
theorem binX_ok (hT : TabOK P T) {op : BinOp} {t : TypeId} {x y : SV} {np : Option Prop} {v : Value} (h : binX T op t x y = some (np, v)) (hnp : ∀ p, np = some p → p) {a b : Value} (ha : x.rel β a) (hb : y.rel β b) (ox oy : Operand) :
    (do eqGuard op t ox oy a b; binOp op t a b : Sem Value).run P w = .ok v w := by
  unfold binX at h
  split at h
  · cases ha; cases hb
    have := intX_ok (P := P) (w := w) h hnp t
    simp [eqGuard_at_int, this]
  · rename_i x0 y0
    cases ha; cases hb
    split at h
    · rename_i td htd
      cases hb : isBool td.desc with
      | false => simp [hb] at h
      | true =>
        simp only [hb, cond_true] at h
        have hu := under_bool hT htd hb
        have := eqX_ok (P := P) (w := w) h (t := t) (x := .bool x0) (y := .bool y0) (by simp) (by simp) (by simp) (by simp) (equal_bool hu _ _)
        simp [eqGuard_at_bool, this]
    · cases h
  · simp only [SV.rel] at ha hb; subst ha; subst hb
    split at h
    · rename_i td htd
      cases hb : isPtr td.desc with
      | false => simp [hb] at h
      | true =>
        simp only [hb, cond_true] at h
        obtain ⟨e, hu⟩ := under_ptr hT htd hb
        have := fun ad => eqX_ok (P := P) (w := w) h (t := t) (x := .pointer (some ad)) (y := .pointer none) (by simp) (by simp) (by simp) (by simp) (equal_ptr_nil hu _)
        simp [eqGuard_at_pointer, this]
    · cases h
  · cases ha; cases hb
    split at h
    · rename_i td htd
      cases hb : isPtr td.desc with
      | false => simp [hb] at h
      | true =>
        simp only [hb, cond_true] at h
        obtain ⟨e, hu⟩ := under_ptr hT htd hb
        have := eqX_ok (P := P) (w := w) h (t := t) (x := .pointer none) (y := .pointer none) (by simp) (by simp) (by simp) (by simp) (equal_ptr_nil hu _)
        simp [eqGuard_at_pointer, this]
    · cases h
  · simp only [SV.rel] at ha hb; subst ha; subst hb
    split at h
    · rename_i td htd
      cases hb : isMap td.desc with
      | false => simp [hb] at h
      | true =>
        simp only [hb, cond_true] at h
        obtain ⟨k, e, hu⟩ := under_map hT htd hb
        have := fun ad => eqX_ok (P := P) (w := w) h (t := t) (x := .map (some ad)) (y := .map none) (by simp) (by simp) (by simp) (by simp) (equal_map_nil hu _)
        simp [eqGuard_at_map, this]
    · cases h
  · cases ha; cases hb
    split at h
    · rename_i td htd
      cases hb : isMap td.desc with
      | false => simp [hb] at h
      | true =>
        simp only [hb, cond_true] at h
        obtain ⟨k, e, hu⟩ := under_map hT htd hb
        have := eqX_ok (P := P) (w := w) h (t := t) (x := .map none) (y := .map none) (by simp) (by simp) (by simp) (by simp) (equal_map_nil hu _)
        simp [eqGuard_at_map, this]
    · cases h
  · cases h
end
def unX (op : UnOp) (x : SV) : VRes :=
  match op, x with
  | .not, .raw (.bool b) => some (none, .bool (!b))
  | .neg, .raw (.int k n) => some (none, .int k (k.wrap (0 - n)))
  | .xor, .raw (.int k n) => some (none, .int k (bitI .xor k (if k.signed then -1 else k.max) n))
  | _, _ => none
theorem unX_ok {P : Program} {w : World} {β : Nat → Loc} {op : UnOp} {x : SV} {np : Option Prop} {v : Value} (h : unX op x = some (np, v)) {a : Value} (ha : x.rel β a) : (Op.unary op a).run P w = .ok v w := by
  unfold unX at h
  split at h <;> cases h <;> cases ha <;> simp [Op.unary, Op.intArith, Op.intBits, bitI]
end Go.Sx
