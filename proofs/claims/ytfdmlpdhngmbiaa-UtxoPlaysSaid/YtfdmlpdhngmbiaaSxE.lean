/- Symbolic states for walks, part E: a region as a whole; code made of regions; a call. -/
import Derived.Test.YtfdmlpdhngmbiaaSxD
namespace Go.Sx
open Go.RowKit

theorem Rec.ok_mono {p q : Nat → Bool} (h : ∀ c, p c = true → q c = true) {d : Nat} {x : Rec} (hx : x.ok p d = true) : x.ok q d = true := by
  simp only [Rec.ok, Bool.and_eq_true, List.all_eq_true] at hx ⊢
  obtain ⟨⟨⟨h1, h2⟩, h3⟩, h4⟩ := hx
  exact ⟨⟨⟨XV.ok_mono h h1, fun y hy => ⟨(h2 y hy).1, Chunk.ok_mono h (h2 y hy).2⟩⟩, fun c hc => ⟨(h3 c hc).1, h _ (h3 c hc).2⟩⟩, h _ h4⟩

theorem filter_lt {p q : Nat → Bool} : ∀ (l : List Nat), (∀ x ∈ l, q x = true → p x = true) → ∀ i, i ∈ l → p i = true → q i = false → (l.filter q).length < (l.filter p).length
  | [], _, i, hi, _, _ => by cases hi
  | x :: r, h, i, hi, hp, hq => by
    have le : (r.filter q).length ≤ (r.filter p).length := by
      have : ∀ l : List Nat, (∀ x ∈ l, q x = true → p x = true) → (l.filter q).length ≤ (l.filter p).length := by
        intro l
        induction l with
        | nil => intro _; simp
        | cons y l ih =>
          intro h
          have ih' := ih (fun z hz => h z (by simp [hz]))
          have hy := h y (by simp)
          simp only [List.filter_cons]
          cases hqy : q y <;> cases hpy : p y <;> simp_all <;> omega
      exact this r (fun z hz => h z (by simp [hz]))
    rcases List.mem_cons.1 hi with rfl | hi
    · simp only [List.filter_cons, hp, hq, if_true, Bool.false_eq_true, if_false, List.length_cons]
      omega
    · have ih := filter_lt r (fun z hz => h z (by simp [hz])) i hi hp hq
      have hx := h x (by simp)
      simp only [List.filter_cons]
      cases hqx : q x <;> cases hpx : p x <;> simp_all <;> omega

section
variable {P : Program} {C : Ctx} {Q : Exit → St → Prop} {ops : Array Oper} {b : Nat} {S0 : St}

theorem tr_run {S' : St} : ∀ (l : List Oper) (i : Nat) (pre rs : List Rec), Tr P ops b l i (runD ops (pre ++ rs) S0 (fun _ => true) i) rs S' → pre.length = i → (∀ j, l[j]? = ops[i + j]?) → i + l.length = ops.size →
    (∀ j, i ≤ j → ∀ o, ops[j]? = some o → ∃ x, (pre ++ rs)[j]? = some x ∧ StepOK P ops b j (runD ops (pre ++ rs) S0 (fun _ => true) j) o x) ∧ S' = runD ops (pre ++ rs) S0 (fun _ => true) ops.size
  | [], i, pre, rs, h, hp, hl, hlen => by
    obtain ⟨rfl, rfl⟩ := h
    simp only [List.length_nil, Nat.add_zero] at hlen
    subst hlen
    refine ⟨fun j hj o ho => ?_, rfl⟩
    have := (Array.getElem?_eq_some_iff.1 ho).1
    omega
  | o :: l, i, pre, rs, h, hp, hl, hlen => by
    obtain ⟨x, rest, rfl, hx, htr⟩ := h
    have ho : ops[i]? = some o := by have := hl 0; simpa using this.symm
    have hxi : (pre ++ x :: rest)[i]? = some x := by rw [List.getElem?_append_right (by omega)]; simp [hp]
    have e : (pre ++ [x]) ++ rest = pre ++ x :: rest := by simp
    have hrun : runD ops (pre ++ x :: rest) S0 (fun _ => true) (i + 1) = (runD ops (pre ++ x :: rest) S0 (fun _ => true) i).app o.dst x.r := by
      simp only [runD, if_true, ho, hxi]
    have ih := tr_run l (i + 1) (pre ++ [x]) rest (by rw [e, hrun]; exact htr) (by simp [hp]) (fun j => by have := hl (j + 1); simpa [Nat.add_assoc, Nat.add_comm 1] using this) (by simp only [List.length_cons] at hlen; omega)
    rw [e] at ih
    refine ⟨fun j hj o' ho' => ?_, ih.2⟩
    by_cases hji : j = i
    · subst hji
      rw [ho] at ho'
      cases ho'
      exact ⟨x, hxi, hx⟩
    · exact ih.1 j (by omega) o' ho'

theorem runD_sok {recs : List Rec} (H : Ordered ops recs b) {D : Nat → Bool} (hD : Closed ops D) (hS : SOK (fun c => Nat.blt c b) S0) : ∀ n, SOK (fun c => Nat.blt c b || (Nat.ble b c && D (c - b))) (runD ops recs S0 D n)
  | 0 => hS.mono (fun c hc => by simp only [hc, Bool.true_or])
  | n + 1 => by
    have ih := runD_sok H hD hS n
    simp only [runD]
    by_cases hDn : D n = true
    · simp only [hDn, if_true]
      split
      · rename_i o x ho hx
        obtain ⟨m, hm, hok⟩ := H.ok n o x ho hx
        refine SOK.app ih (fun c hc => hc) (Rec.ok_mono (fun c hc => ?_) hok) o.dst
        simp only [Bool.or_eq_true, Bool.and_eq_true, nbeq, decide_eq_true_eq] at hc ⊢
        rcases hc with hc | ⟨h1, hc | hc⟩
        · exact .inl hc
        · exact .inr ⟨h1, by rw [hc]; exact hDn⟩
        · exact .inr ⟨h1, hD.anc _ n o m ho (hD n o ho hDn) hm hc⟩
      · exact ih
    · simp only [hDn]
      exact ih

theorem ready_spec {md : Region.Mode} {listed : Array Bool} {i : Nat} (h : i ∈ Region.ready md ops listed) : i < ops.size ∧ listed.getD i true = false ∧ ∃ o, ops[i]? = some o ∧ ∀ e ∈ o.after.toList, Region.binds md e = true → listed.getD e.on false = true := by
  simp only [Region.ready, List.mem_filter, List.mem_range, Bool.and_eq_true, Bool.not_eq_true'] at h
  obtain ⟨h1, h2, h3⟩ := h
  have ho : ops[i]? = some ops[i] := by simp [h1]
  refine ⟨h1, h2, ops[i], ho, fun e he hb => ?_⟩
  simp only [ho, Option.map_some, Option.getD_some, Array.all_eq_true_iff_forall_mem] at h3
  have := h3 e (Array.mem_toList_iff.1 he)
  simpa [hb] using this

/-- In whatever order the edges allow. -/
theorem any_sound {recs : List Rec} (H : Ordered ops recs b) (hn : C.n0 ≤ b) (hS0 : SOK (fun c => Nat.blt c b) S0)
    (hrun : ∀ (j : Nat) (o : Oper), ops[j]? = some o → ∃ x, recs[j]? = some x ∧ StepOK P ops b j (runD ops recs S0 (fun _ => true) j) o x)
    {Q' : Exit → Act → World → Prop} (hQ : ∀ a w, SatC C { runD ops recs S0 (fun _ => true) ops.size with nx := b + ops.size } a w → Q' .normal a w) :
    ∀ (fuel : Nat) (listed : Array Bool) (a : Act) (w : World), listed.size = ops.size → Closed ops (fun j => listed.getD j false) → ((List.range ops.size).filter fun i => !listed.getD i true).length ≤ fuel →
      (∃ β ow, Sat β ow w (runD ops recs S0 (fun j => listed.getD j false) ops.size) a ∧ Grow C β ow w ∧ OWN (fun c => Nat.blt c b || (Nat.ble b c && (Nat.blt (c - b) ops.size && listed.getD (c - b) false))) ow) → wpAny P .any ops Q' fuel listed a w := by
  have unl : ∀ (listed : Array Bool) (i : Nat), listed.size = ops.size → i < ops.size → (listed.getD i true = listed.getD i false) := by
    intro listed i hl hi
    simp [Array.getD, hl, hi]
  have fin : ∀ (listed : Array Bool) (a : Act) (w : World), listed.size = ops.size → (∀ j, j < ops.size → listed.getD j false = true) → (∃ β ow, Sat β ow w (runD ops recs S0 (fun j => listed.getD j false) ops.size) a ∧ Grow C β ow w ∧ OWN (fun c => Nat.blt c b || (Nat.ble b c && (Nat.blt (c - b) ops.size && listed.getD (c - b) false))) ow) → Q' .normal a w := by
    intro listed a w hl hall ⟨β, ow, h1, h2, h3⟩
    have e : runD ops recs S0 (fun j => listed.getD j false) ops.size = runD ops recs S0 (fun _ => true) ops.size := runD_congr _ (fun j hj => hall j hj)
    rw [e] at h1
    have hsk := runD_sok (S0 := S0) H (D := fun _ => true) (fun _ _ _ _ _ _ => rfl) hS0 ops.size
    have key : ∀ c, (Nat.blt c b || (Nat.ble b c && true)) = true → True := fun _ _ => trivial
    refine hQ a w ⟨β, ow, ⟨h1.defers, h1.size, h1.slots, h1.mem, h1.wf⟩, ?_, h2, by simp only; omega, h3.mono (fun c hc => by
      simp only [Bool.or_eq_true, Bool.and_eq_true, Nat.blt_eq, Nat.ble_eq] at hc ⊢
      omega)⟩
    have hD' : Closed ops (fun j => decide (j < ops.size)) := by
      intro j o ho hj k hk
      have h3 := H.edge j o ho k hk
      simp only [decide_eq_true_eq] at hj ⊢
      omega
    have hsk' := runD_sok (S0 := S0) H hD' hS0 ops.size
    have e2 : runD ops recs S0 (fun j => decide (j < ops.size)) ops.size = runD ops recs S0 (fun _ => true) ops.size := runD_congr _ (fun j hj => by simp [hj])
    rw [e2] at hsk'
    have hm := hsk'.mono (q := fun c => Nat.blt c (b + ops.size)) (fun c hc => by
      simp only [Bool.or_eq_true, Bool.and_eq_true, Nat.blt_eq, Nat.ble_eq, decide_eq_true_eq] at hc ⊢
      omega)
    exact ⟨hm.slots, hm.mem⟩
  have all_of_none : ∀ (listed : Array Bool), listed.size = ops.size → Closed ops (fun j => listed.getD j false) → Region.ready .any ops listed = [] → ∀ j, j < ops.size → listed.getD j false = true := by
    intro listed hl hc hr j
    induction j using Nat.strongRecOn with
    | _ j ih =>
      intro hj
      cases hb : listed.getD j false with
      | true => rfl
      | false =>
        exfalso
        have ho : ops[j]? = some ops[j] := by simp [hj]
        have : j ∈ Region.ready .any ops listed := by
          simp only [Region.ready, List.mem_filter, List.mem_range, Bool.and_eq_true, Bool.not_eq_true']
          refine ⟨hj, by rw [unl listed j hl hj]; exact hb, ?_⟩
          simp only [ho, Option.map_some, Option.getD_some, Array.all_eq_true_iff_forall_mem]
          intro e he
          cases hbi : Region.binds .any e with
          | false => rfl
          | true =>
            have hk : e.on ∈ edgesOf ops[j] := List.mem_map.2 ⟨e, List.mem_filter.2 ⟨Array.mem_toList_iff.2 he, hbi⟩, rfl⟩
            have hlt := H.edge j _ ho _ hk
            simpa using ih e.on hlt (by omega)
        rw [hr] at this
        cases this
  intro fuel
  induction fuel with
  | zero =>
    intro listed a w hl hc hf hinv
    have hnone : ∀ i, i < ops.size → listed.getD i true = true := by
      intro i hi
      cases hb : listed.getD i true with
      | true => rfl
      | false =>
        have : i ∈ (List.range ops.size).filter fun i => !listed.getD i true := List.mem_filter.2 ⟨List.mem_range.2 hi, by rw [hb]; rfl⟩
        rw [List.eq_nil_of_length_eq_zero (Nat.le_zero.1 hf)] at this
        cases this
    refine ⟨?_, fin listed a w hl (fun j hj => by rw [← unl listed j hl hj]; exact hnone j hj) hinv⟩
    rw [List.eq_nil_iff_forall_not_mem]
    intro i hi
    obtain ⟨h1, h2, _⟩ := ready_spec hi
    rw [hnone i h1] at h2
    cases h2
  | succ fuel ih =>
    intro listed a w hl hc hf hinv
    refine ⟨fun hr => fin listed a w hl (all_of_none listed hl hc hr) hinv, fun i hi => ?_⟩
    obtain ⟨h1, h2, o, ho, hed⟩ := ready_spec hi
    have h2' : listed.getD i false = false := by rw [← unl listed i hl h1]; exact h2
    obtain ⟨x, hx, hstep⟩ := hrun i o ho
    obtain ⟨β, ow, hsat, hgrow, hown⟩ := hinv
    have hpre : ∀ k ∈ edgesOf o, (fun j => listed.getD j false) k = true := by
      intro k hk
      obtain ⟨e, he, rfl⟩ := List.mem_map.1 hk
      obtain ⟨he1, he2⟩ := List.mem_filter.1 he
      exact hed e he1 he2
    obtain ⟨ag1, ag2⟩ := agree (S0 := S0) H hc ho hx h2' hpre ops.size (by omega)
    have hsk := runD_sok (S0 := S0) H hc hS0 ops.size
    have hne : ∀ c, (Nat.blt c b || (Nat.ble b c && listed.getD (c - b) false)) = true → c ≠ b + i := by
      intro c hcc e
      subst e
      simp only [Bool.or_eq_true, Bool.and_eq_true, Nat.blt_eq, Nat.ble_eq] at hcc
      rcases hcc with hcc | ⟨_, hcc⟩
      · omega
      · rw [show b + i - b = i by omega, h2'] at hcc
        cases hcc
    have hset : ∀ j, (listed.setIfInBounds i true).getD j false = if j = i then true else listed.getD j false := by
      intro j
      simp only [Array.getD_eq_getD_getElem?, Array.getElem?_setIfInBounds]
      by_cases hj : i = j
      · subst hj; simp [hl, h1]
      · have : ¬ j = i := fun e => hj e.symm
        simp [hj, this]
    have hclosed : Closed ops (fun j => (listed.setIfInBounds i true).getD j false) := by
      intro j oj hoj hj k hk
      simp only [hset] at hj ⊢
      by_cases hji : j = i
      · subst hji
        rw [ho] at hoj
        cases hoj
        have := hpre k hk
        split
        · rfl
        · exact this
      · rw [if_neg hji] at hj
        have := hc j oj hoj hj k hk
        split
        · rfl
        · exact this
    have hcnt : ((List.range ops.size).filter fun j => !(listed.setIfInBounds i true).getD j true).length ≤ fuel := by
      have := filter_lt (p := fun j => !listed.getD j true) (q := fun j => !(listed.setIfInBounds i true).getD j true) (List.range ops.size) (by
        intro j hj hq
        have hj' := List.mem_range.1 hj
        rw [unl _ j (by simp [hl]) hj', hset] at hq
        rw [unl _ j hl hj']
        split at hq
        · cases hq
        · exact hq) i (List.mem_range.2 h1) (by rw [h2]; rfl) (by rw [unl _ i (by simp [hl]) h1, hset]; simp)
      omega
    have hfun : (fun j => (listed.setIfInBounds i true).getD j false) = fun j => if j = i then true else listed.getD j false := funext hset
    have hup : ∀ c, (Nat.blt c b || (Nat.ble b c && (Nat.blt (c - b) ops.size && listed.getD (c - b) false))) = true → (Nat.blt c b || (Nat.ble b c && (Nat.blt (c - b) ops.size && (listed.setIfInBounds i true).getD (c - b) false))) = true := by
      intro c hcc
      simp only [Bool.or_eq_true, Bool.and_eq_true, hset] at hcc ⊢
      rcases hcc with hcc | ⟨e1, e2, e3⟩
      · exact .inl hcc
      · refine .inr ⟨e1, e2, ?_⟩
        split
        · rfl
        · exact e3
    have hdup : (Nat.blt (b + i) b || (Nat.ble b (b + i) && (Nat.blt (b + i - b) ops.size && (listed.setIfInBounds i true).getD (b + i - b) false))) = true := by
      simp only [Bool.or_eq_true, Bool.and_eq_true, hset, Nat.blt_eq, Nat.ble_eq]
      refine .inr ⟨by omega, by omega, ?_⟩
      rw [if_pos (by omega)]
    have go : ∀ β' ow' w' a', Sat β' ow' w' ((runD ops recs S0 (fun j => listed.getD j false) ops.size).app o.dst x.r) a' → Grow C β' ow' w' → OWN (fun c => Nat.blt c b || (Nat.ble b c && (Nat.blt (c - b) ops.size && (listed.setIfInBounds i true).getD (c - b) false))) ow' → wpAny P .any ops Q' fuel (listed.setIfInBounds i true) a' w' := by
      intro β' ow' w' a' hs hg hw'
      refine ih _ a' w' (by simp [hl]) hclosed hcnt ⟨β', ow', ?_, hg, hw'⟩
      rw [hfun]
      exact (insert_same (S0 := S0) H hc ho hx h2' ops.size h1).sat hs
    unfold wpOp
    simp only [ho]
    have hw := wanted_of (ops := ops) (S1 := runD ops recs S0 (fun _ => true) i) hsat ag1 hstep.guard
    by_cases hs : x.skip = true
    · rw [hs] at hw
      simp only [hw, Bool.not_true, Bool.false_eq_true, if_false]
      have hr := hstep.pass hs
      refine go β ow w _ ?_ hgrow (hown.mono hup)
      rw [hr]
      exact hsat.app hsk hne (r := skipRes) (Eff.refl hsat.wf (b + i)) rfl (fun c ch h => by simp [skipRes, Mem.get] at h)
    · have hs' : x.skip = false := by simpa using hs
      rw [hs'] at hw
      simp only [hw, Bool.not_false, if_true]
      refine .inl (hstep.run hs' β ow w a _ _ hsat.wf (fun k e => by
        have h5 := hown k _ e
        simp only [Bool.or_eq_true, Bool.and_eq_true, Nat.blt_eq, Nat.ble_eq] at h5
        rcases h5 with h5 | ⟨_, _, h5⟩
        · omega
        · rw [show b + i - b = i by omega, h2'] at h5; cases h5) ?_ ?_ ?_)
      · intro y hy X hX
        refine hsat.ev (x := y) ?_
        cases y with
        | tmp t =>
          have ht : t ∈ o.looksAt ops := by
            simp only [Oper.looksAt, List.mem_append, List.mem_filterMap]
            exact .inl ⟨.tmp t, Array.mem_toList_iff.2 hy, rfl⟩
          simp only [St.ev] at hX ⊢
          rw [ag1 t ht]; exact hX
        | _ => exact hX
      · intro c hcr ch hch
        exact hsat.mem c ch (by rw [ag2 c hcr]; exact hch)
      · intro β' ow' w' v E hv hu
        obtain ⟨m, hm, hok⟩ := H.ok i o x ho hx
        have hq : ∀ c, (Nat.blt c b || (Nat.ble b c && (Nat.beq (c - b) i || Nat.testBit m (c - b)))) = true → (Nat.blt c b || (Nat.ble b c && (Nat.blt (c - b) ops.size && (listed.setIfInBounds i true).getD (c - b) false))) = true := by
          intro c hcc
          simp only [Bool.or_eq_true, Bool.and_eq_true, nbeq, decide_eq_true_eq, hset, Nat.blt_eq] at hcc ⊢
          rcases hcc with hcc | ⟨e1, e2 | e2⟩
          · exact .inl hcc
          · exact .inr ⟨e1, by omega, by rw [if_pos e2]⟩
          · have e3 := hc.anc _ i o m ho hpre hm e2
            refine .inr ⟨e1, ?_, ?_⟩
            · have e4 := e3
              rcases Nat.lt_or_ge (c - b) ops.size with h' | h'
              · exact h'
              · simp [Array.getD, hl, Nat.not_lt.2 h'] at e4
            · split
              · rfl
              · exact e3
        have hwk := Rec.wr_ok (Rec.ok_mono hq hok)
        exact go β' ow' w' _ (hsat.app hsk hne E hv hu) (hgrow.eff E (by omega)) (hown.eff E hup hwk.1 hdup)
end

def evalRegion (step : Step) (ops : Array Oper) (draw : Bool) (S : St) (k : St → Tree) : Tree :=
  evalOps step ops S.nx ops.toList 0 S [] fun recs S' => natK (S.nx + ops.size) fun n =>
    match S' with
    | ⟨sl, m, _⟩ => bif draw then .need (orderB ops recs S.nx = true) (k ⟨sl, m, n⟩) else k ⟨sl, m, n⟩

theorem region_sound {P : Program} {C : Ctx} {Q : Exit → St → Prop} {step : Step} (hm : P.follows .mixedOrders = true) (hstep : StepSound P step) {id : Nat} {ops : Array Oper} {draw : Bool} {S : St} {k : St → Tree}
    (h : wpT P C Q (evalRegion step ops draw S k)) {a : Act} {w : World} (hs : SatC C S a w) {Q' : Exit → Act → World → Prop} (hQ : ∀ a' w' S', SatC C S' a' w' → wpT P C Q (k S') → Q' .normal a' w') : (Code.region id ops draw).wp P Q' a w := by
  obtain ⟨recs, S', htr, hk⟩ := evalOps_tr hstep _ _ _ _ _ h
  obtain ⟨β, ow, h1, h2, h3, h4, h5⟩ := hs
  simp only [List.reverse_nil, List.nil_append, natK_eq] at hk
  cases draw with
  | false =>
    simp only [cond_false] at hk
    refine wp_region ?_
    have := seq_sound (Q' := Q') (n := S.nx + ops.size) (C := C) h4 (Nat.le_refl _) ops.toList 0 S S' recs htr (fun j => by simp) (by simp) (fun a' w' hs' => hQ a' w' _ hs' hk) β ow a w h1 h2 h3 h5
    rwa [Array.length_toList, ← List.range_eq_range'] at this
  | true =>
    simp only [cond_true, wpT] at hk
    obtain ⟨hB, hk⟩ := hk
    have H := orderB_spec hB
    have hk := hk hB
    obtain ⟨hr1, hr2⟩ := tr_run (S0 := S) ops.toList 0 [] recs htr rfl (fun j => by simp) (by simp)
    simp only [List.nil_append] at hr1 hr2
    subst hr2
    refine wp_region_any hm (any_sound H h4 h2 (fun j o ho => hr1 j (Nat.zero_le _) o ho) (fun a' w' hs' => hQ a' w' _ hs' hk) ops.size _ a _ (by simp) ?_ (by
      refine Nat.le_trans (List.length_filter_le _ _) (by simp)) ?_)
    · intro j o ho hj
      simp [Array.getD] at hj
    · have e : runD ops recs S (fun j => (Array.replicate ops.size false).getD j false) ops.size = S :=
        (runD_stop 0 ops.size (Nat.zero_le _) (fun j _ hj => by simp [Array.getD, hj]))
      refine ⟨β, ow, ?_, ?_, h5.mono (fun c hc => by rw [hc, Bool.true_or])⟩
      · rw [e]
        exact ⟨h1.defers, h1.size, h1.slots, fun c ch hc => by
          have := h1.mem c ch hc
          cases ch with
          | cells e cs => exact this
          | vec e sz n f => exact this
          | ro sz n f => exact this
          | abs A => exact ⟨this.1, this.2.1, A.loc (w := w) (w' := { w with drawn := w.drawn + 1 }) (fun _ _ => rfl) (fun _ => Iff.rfl) this.2.2⟩, h1.wf⟩
      · exact ⟨h3.os, h3.tape, h3.output, h3.size, h3.keep, h3.beta⟩
end Go.Sx
