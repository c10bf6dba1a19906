/- Symbolic states for walks, part P: maps of plain keys and plain elements. -/
import Derived.Test.YtfdmlpdhngmbiaaSxO
import Derived.Maps.Keyed
import Derived.DeepKeys5
namespace Go.Sx
open Go.RowKit Go.MapKept

def rawCV : Value → CV
  | .agg cs => .agg (cs.toList.map .raw)
  | v => .one (.raw v)
theorem rawCV_rel {β : Nat → Loc} (v x : Value) : (rawCV v).rel β x ↔ x = v := by
  cases v <;> simp only [rawCV, CV.rel, SV.rel]
  rename_i cs
  constructor
  · rintro ⟨arr, rfl, h⟩
    have : ∀ (l : List Value) (r : List Value), Rels β (l.map .raw) r → r = l := by
      intro l
      induction l with
      | nil => intro r h; exact h
      | cons y t ih => rintro r ⟨v, r', rfl, h1, h2⟩; simp only [SV.rel] at h1; rw [h1, ih r' h2]
    have e := this _ _ h
    rw [← Array.toList_inj.1 e]
  · rintro rfl
    exact ⟨cs, rfl, Rels.raw _⟩

/-- What a map's key type has to give; kx: how a key is written. -/
structure KeyL (P : Program) (t : TypeId) {K : Type} (kx : K → Value) : Prop where
  inj : ∀ a b, kx a = kx b → a = b
  check : ∀ (w : World) (em : Bool) (a : K), (Instr.checkKey em 10000 t (kx a)).run P w = .ok () w
  find : ∀ (w : World) (a : K) (es : List MapEntry), (∀ e ∈ es, ∃ b, e.key = kx b) →
    ((Instr.findKey t (kx a) es).run P w = .ok none w ∧ ∀ e ∈ es, e.key ≠ kx a) ∨ ∃ j e, (Instr.findKey t (kx a) es).run P w = .ok (some (j, e.val)) w ∧ es[j]? = some e ∧ e.key = kx a
  stays : ∀ (w : World) (a : K), (Instr.keyThatStays (kx a) (kx a)).run P w = .ok (kx a) w

theorem KeyL.of {P : Program} {t : TypeId} {K : Type} {kx : K → Value} (L : Maps.Keyed P t) (hi : ∀ a b, kx a = kx b → a = b) (hk : ∀ a, ∃ l, keyOf P t (kx a) = some l) : KeyL P t kx where
  inj := hi
  check w em a := by obtain ⟨l, h⟩ := hk a; exact L.check w em h
  find w a es he := by
    obtain ⟨l, h⟩ := hk a
    exact L.find w h es fun e hm => by
      obtain ⟨b, hb⟩ := he e hm
      rw [hb]; exact hk b
  stays w a := by obtain ⟨l, h⟩ := hk a; exact L.stays w h

section
variable {K V : Type} [DecidableEq K]
def mget : List (K × V) → K → Option V
  | [], _ => none
  | x :: r, k => if x.1 = k then some x.2 else mget r k
def mput : List (K × V) → K → V → List (K × V)
  | [], k, v => [(k, v)]
  | x :: r, k, v => if x.1 = k then (k, v) :: r else x :: mput r k v
def mdel : List (K × V) → K → List (K × V)
  | [], _ => []
  | x :: r, k => if x.1 = k then r else x :: mdel r k

theorem mget_none {l : List (K × V)} {k : K} (h : ∀ x ∈ l, x.1 ≠ k) : mget l k = none := by
  induction l with
  | nil => rfl
  | cons x r ih =>
    simp only [mget]
    rw [if_neg (h x (by simp)), ih (fun y hy => h y (by simp [hy]))]
theorem mput_none {l : List (K × V)} {k : K} {v : V} (h : ∀ x ∈ l, x.1 ≠ k) : mput l k v = l ++ [(k, v)] := by
  induction l with
  | nil => rfl
  | cons x r ih =>
    simp only [mput]
    rw [if_neg (h x (by simp)), ih (fun y hy => h y (by simp [hy]))]
    rfl
theorem mdel_none {l : List (K × V)} {k : K} (h : ∀ x ∈ l, x.1 ≠ k) : mdel l k = l := by
  induction l with
  | nil => rfl
  | cons x r ih =>
    simp only [mdel]
    rw [if_neg (h x (by simp)), ih (fun y hy => h y (by simp [hy]))]
theorem mget_some {l : List (K × V)} {k : K} {v : V} {j : Nat} (hn : (l.map (·.1)).Nodup) (h : l[j]? = some (k, v)) : mget l k = some v := by
  induction l generalizing j with
  | nil => simp at h
  | cons x r ih =>
    simp only [List.map_cons, List.nodup_cons] at hn
    simp only [mget]
    cases j with
    | zero => simp at h; simp [h]
    | succ j =>
      simp only [List.getElem?_cons_succ] at h
      have : ¬ x.1 = k := fun e => hn.1 (by rw [e]; exact List.mem_map.2 ⟨_, List.mem_of_getElem? h, rfl⟩)
      rw [if_neg this]
      exact ih hn.2 h
theorem mput_some {l : List (K × V)} {k : K} {v v' : V} {j : Nat} (hn : (l.map (·.1)).Nodup) (h : l[j]? = some (k, v)) : mput l k v' = l.set j (k, v') := by
  induction l generalizing j with
  | nil => simp at h
  | cons x r ih =>
    simp only [List.map_cons, List.nodup_cons] at hn
    simp only [mput]
    cases j with
    | zero => simp at h; simp [h]
    | succ j =>
      simp only [List.getElem?_cons_succ] at h
      have : ¬ x.1 = k := fun e => hn.1 (by rw [e]; exact List.mem_map.2 ⟨_, List.mem_of_getElem? h, rfl⟩)
      rw [if_neg this, ih hn.2 h]
      rfl
theorem mdel_some {l : List (K × V)} {k : K} {v : V} {j : Nat} (hn : (l.map (·.1)).Nodup) (h : l[j]? = some (k, v)) : mdel l k = l.eraseIdx j := by
  induction l generalizing j with
  | nil => simp at h
  | cons x r ih =>
    simp only [List.map_cons, List.nodup_cons] at hn
    simp only [mdel]
    cases j with
    | zero => simp at h; simp [h]
    | succ j =>
      simp only [List.getElem?_cons_succ] at h
      have : ¬ x.1 = k := fun e => hn.1 (by rw [e]; exact List.mem_map.2 ⟨_, List.mem_of_getElem? h, rfl⟩)
      rw [if_neg this, ih hn.2 h]
      rfl
end

/-- A block is a map of these entries, in this order. -/
def MapP {K V : Type} (kx : K → Value) (vx : V → Value) (l : List (K × V)) : AbsP where
  Φ w b _ O := (∀ k, O k ↔ k = b) ∧ ∃ es clock, w.heap[b]? = some (.map es clock) ∧ Stamped es clock ∧ es.toList.map (fun e => (e.key, e.val)) = l.map fun x => (kx x.1, vx x.2)
  loc := by
    rintro w w' b s O O' hk hO ⟨h1, es, clock, h2, h3⟩
    exact ⟨fun k => (hO k).trans (h1 k), es, clock, (hk b ((h1 b).2 rfl)).trans h2, h3⟩
  in_heap := by
    rintro w b s O ⟨h1, es, clock, h2, _⟩ k hk
    rw [(h1 k).1 hk]
    exact (Array.getElem?_eq_some_iff.1 h2).1

section
variable {P : Program} {S : St} {d : Nat} {o : Oper} {K V : Type} [DecidableEq K] {kx : K → Value} {vx : V → Value} {l : List (K × V)} {t kt et : TypeId}

omit [DecidableEq K] in
theorem mapP_keys {es : Array MapEntry} (h : es.toList.map (fun e => (e.key, e.val)) = l.map fun x => (kx x.1, vx x.2)) : ∀ e ∈ es.toList, ∃ b, e.key = kx b := by
  intro e he
  have : (e.key, e.val) ∈ es.toList.map (fun e => (e.key, e.val)) := List.mem_map.2 ⟨e, he, rfl⟩
  rw [h] at this
  obtain ⟨x, _, hx⟩ := List.mem_map.1 this
  exact ⟨x.1, by simp only [Prod.mk.injEq] at hx; exact hx.1.symm⟩
omit [DecidableEq K] in
theorem mapP_none {es : Array MapEntry} (h : es.toList.map (fun e => (e.key, e.val)) = l.map fun x => (kx x.1, vx x.2)) {a : K} (hn : ∀ e ∈ es.toList, e.key ≠ kx a) : ∀ x ∈ l, x.1 ≠ a := by
  intro x hx e
  have : (kx x.1, vx x.2) ∈ l.map (fun x => (kx x.1, vx x.2)) := List.mem_map.2 ⟨x, hx, rfl⟩
  rw [← h] at this
  obtain ⟨y, hy, hxy⟩ := List.mem_map.1 this
  simp only [Prod.mk.injEq] at hxy
  exact hn y hy (by rw [hxy.1, e])
omit [DecidableEq K] in
theorem mapP_some (hi : ∀ a b, kx a = kx b → a = b) {es : Array MapEntry} (h : es.toList.map (fun e => (e.key, e.val)) = l.map fun x => (kx x.1, vx x.2)) {a : K} {j : Nat} {e : MapEntry} (he : es.toList[j]? = some e) (hk : e.key = kx a) : ∃ v, l[j]? = some (a, v) ∧ e.val = vx v := by
  have h1 : (es.toList.map (fun e => (e.key, e.val)))[j]? = some (e.key, e.val) := by simp [he]
  rw [h, List.getElem?_map] at h1
  cases hl : l[j]? with
  | none => simp [hl] at h1
  | some x =>
    simp only [hl, Option.map_some, Option.some.injEq, Prod.mk.injEq] at h1
    have : x.1 = a := hi _ _ (by rw [h1.1, hk])
    exact ⟨x.2, by rw [← this], h1.2.symm⟩
omit [DecidableEq K] in
theorem mapP_nodup {es : Array MapEntry} {clock : Nat} (hs : Stamped es clock) (h : es.toList.map (fun e => (e.key, e.val)) = l.map fun x => (kx x.1, vx x.2)) : (l.map (·.1)).Nodup := by
  have h1 : es.toList.map (·.key) = (l.map (·.1)).map kx := by
    have := congrArg (List.map Prod.fst) h
    simpa [List.map_map, Function.comp_def] using this
  have h2 := hs.2.2
  rw [h1] at h2
  have : ∀ m : List K, (m.map kx).Nodup → m.Nodup := by
    intro m
    induction m with
    | nil => simp
    | cons x r ih =>
      simp only [List.map_cons, List.nodup_cons]
      rintro ⟨g1, g2⟩
      exact ⟨fun hm => g1 (List.mem_map.2 ⟨x, hm, rfl⟩), ih g2⟩
  exact this _ h2

/-- 'm[k]', with or without 'ok'. -/
theorem lookup_op (KL : KeyL P kt kx) (ht : P.underlying t = some (.map kt et)) {z0 : V} (hz : ∀ w : World, (zeroValue et).run P w = .ok (vx z0) w) {x ix : Operand} {ok : Bool} (ho : o.op = .lookup t x ix ok) {c : Nat} (hx : S.ev x = some (XV.sv (.map c))) (a : K) (hi : S.ev ix = some (.cv (rawCV (kx a))))
    (hm : S.mem.get c = some (.abs (MapP kx vx l))) : OpSound P S d o { v := if ok then .tup [rawCV (vx ((mget l a).getD z0)), .one (.raw (.bool (mget l a).isSome))] else .cv (rawCV (vx ((mget l a).getD z0))) } [c] := by
  refine read_op fun β ow w ac hw hops hr => ?_
  have h1 := hops x (by rw [ho]; simp [Op.operands]) _ hx
  have h2 := hops ix (by rw [ho]; simp [Op.operands]) _ hi
  simp only [XV.rel, rawCV_rel] at h2
  simp only [XV.rel, CV.rel, SV.rel] at h1
  obtain ⟨_, _, _, es, clock, hb, hs, hl⟩ := hr c (by simp) _ hm
  have hn := mapP_nodup hs hl
  have main : ∃ v b, (Instr.lookup t (.map (some (β c).blk)) (kx a) ok).run P w = .ok (if ok then .tuple #[v, .bool b] else v) w ∧ v = vx ((mget l a).getD z0) ∧ b = (mget l a).isSome := by
    rcases KL.find w a es.toList (mapP_keys hl) with ⟨g1, g2⟩ | ⟨j, e, g1, g2, g3⟩
    · have := mget_none (mapP_none hl g2)
      refine ⟨vx z0, false, ?_, by rw [this]; rfl, by rw [this]; rfl⟩
      simp [Instr.lookup, run_underlying ht, MapKept.run_getObj_map hb, KL.check w _ a, g1, hz, Result.andThen]
    · obtain ⟨v, g4, g5⟩ := mapP_some KL.inj hl g2 g3
      have := mget_some hn g4
      refine ⟨e.val, true, ?_, by rw [this, g5]; rfl, by rw [this]; rfl⟩
      simp [Instr.lookup, run_underlying ht, MapKept.run_getObj_map hb, KL.check w _ a, g1, Result.andThen]
  obtain ⟨v, b, m1, m2, m3⟩ := main
  refine ⟨_, by simp only [execOp, ho, h1, h2]; exact value_of m1, ?_⟩
  cases ok with
  | true => exact ⟨_, rfl, v, [.bool b], rfl, (rawCV_rel _ _).2 m2, .bool b, [], rfl, by rw [m3]; rfl, rfl⟩
  | false => exact (rawCV_rel _ _).2 m2

theorem Eff.setB {β : Nat → Loc} {ow : Nat → Option Nat} {w : World} (hw : WF ow w) (d c : Nat) {g : Nat} (hg : ow g = some c) (ob : Obj) : Eff β ow w β ow (ChangeMaps.setBlock w g ob) [c] d := by
  refine ⟨fun _ _ => rfl, rfl, rfl, rfl, by simp [ChangeMaps.setBlock], fun k hk hn => ⟨?_, rfl⟩, fun k hk c' hc => ?_, fun k hk => by simpa [ChangeMaps.setBlock] using hw k hk⟩
  · have : g ≠ k := fun e => hn c (by simp) (by rw [← e]; exact hg)
    simp [ChangeMaps.setBlock, this]
  · rcases hk with hk | ⟨c0, h0, h1⟩
    · exact absurd (hw k (by simp [hc])) (by omega)
    · rw [h1] at hc
      cases hc
      exact .inl h0

/-- 'm[k] = v'. -/
theorem update_op (KL : KeyL P kt kx) (ht : P.underlying t = some (.map kt et)) {x k y : Operand} (ho : o.op = .mapUpdate t x k y) {c : Nat} (hx : S.ev x = some (XV.sv (.map c))) (a : K) (v : V) (hk : S.ev k = some (.cv (rawCV (kx a)))) (hv : S.ev y = some (.cv (rawCV (vx v))))
    (hm : S.mem.get c = some (.abs (MapP kx vx l))) : OpSound P S d o { v := XV.val undef, upd := [(c, .abs (MapP kx vx (mput l a v)))], wr := [c] } [c] := by
  intro β ow w ac K' Q hw _ hops hr hK
  have h1 := hops x (by rw [ho]; simp [Op.operands]) _ hx
  have h2 := hops k (by rw [ho]; simp [Op.operands]) _ hk
  have h3 := hops y (by rw [ho]; simp [Op.operands]) _ hv
  simp only [XV.rel, rawCV_rel] at h2 h3
  simp only [XV.rel, CV.rel, SV.rel] at h1
  obtain ⟨n0, n1, hO, es, clock, hb, hs, hl⟩ := hr c (by simp) _ hm
  have hn := mapP_nodup hs hl
  have hlt := (Array.getElem?_eq_some_iff.1 hb).1
  have main : ∃ es' clock', (Instr.mapUpdate t (.map (some (β c).blk)) (kx a) (vx v)).run P w = .ok () (ChangeMaps.setBlock w (β c).blk (.map es' clock')) ∧ Stamped es' clock' ∧ es'.toList.map (fun e => (e.key, e.val)) = (mput l a v).map fun x => (kx x.1, vx x.2) := by
    rcases KL.find w a es.toList (mapP_keys hl) with ⟨g1, g2⟩ | ⟨j, e, g1, g2, g3⟩
    · refine ⟨es.push ⟨kx a, vx v, clock⟩, clock + 1, ?_, stamped_push hs g2, ?_⟩
      · simp [Instr.mapUpdate, run_underlying ht, MapKept.run_getObj_map hb, KL.check w false a, g1, MapKept.run_setObj_map _ hb, Result.andThen, ChangeMaps.setBlock]
      · rw [mput_none (mapP_none hl g2)]
        simp [hl]
    · obtain ⟨v0, g4, g5⟩ := mapP_some KL.inj hl g2 g3
      have hj : es[j]? = some e := by simpa using g2
      have hkeyf : ∀ e', es[j]? = some e' → ({ e' with key := kx a, val := vx v } : MapEntry).key = e'.key := fun e' he' => by rw [hj] at he'; cases he'; exact g3.symm
      have hlist : (es.modify j (fun e' => { e' with key := kx a, val := vx v })).toList = es.toList.set j { e with key := kx a, val := vx v } := by rw [Array.toList_modify, ChangeMaps.modify_eq_set _ _ _ _ g2]
      refine ⟨es.modify j (fun e' => { e' with key := kx a, val := vx v }), clock, ?_, stamped_modify hs _ _ (fun _ _ => rfl) (fun e' _ he' => hkeyf e' he'), ?_⟩
      · simp [Instr.mapUpdate, run_underlying ht, MapKept.run_getObj_map hb, KL.check w false a, g1, hj, g3, KL.stays w a, MapKept.run_setObj_map _ hb, Result.andThen, ChangeMaps.setBlock]
      · rw [hlist, mput_some hn g4, List.map_set, List.map_set, hl]
  obtain ⟨es', clock', m1, m2, m3⟩ := main
  have hrun : (execOp ac.eval o).run P w = .ok .skip (ChangeMaps.setBlock w (β c).blk (.map es' clock')) := by
    simp [execOp, ho, h1, h2, h3, m1]
  refine upon_skip hrun (hK β ow _ undef (Eff.setB hw d c ((hO _).2 rfl) _) rfl (fun c' ch hc => ?_))
  simp only [Mem.get, nbeq] at hc
  by_cases hcc : c = c'
  · subst hcc
    simp only [decide_true, cond_true, Option.some.injEq] at hc
    subst hc
    exact ⟨n0, n1, hO, es', clock', by simp [ChangeMaps.setBlock, hlt], m2, m3⟩
  · simp [hcc] at hc

/-- 'delete(m, k)'. -/
theorem delete_op (KL : KeyL P kt kx) (ht : P.underlying t = some (.map kt et)) {x k : Operand} {kt' : TypeId} (ho : o.op = .call { callee := .builtin .delete, args := #[x, k], argTypes := #[t, kt'] }) {c : Nat} (hx : S.ev x = some (XV.sv (.map c))) (a : K) (hk : S.ev k = some (.cv (rawCV (kx a))))
    (hm : S.mem.get c = some (.abs (MapP kx vx l))) : OpSound P S d o { v := .tup [], upd := [(c, .abs (MapP kx vx (mdel l a)))], wr := [c] } [c] := by
  intro β ow w ac K' Q hw _ hops hr hK
  have h1 := hops x (by rw [ho]; simp [Op.operands, Call.operands]) _ hx
  have h2 := hops k (by rw [ho]; simp [Op.operands, Call.operands]) _ hk
  simp only [XV.rel, rawCV_rel] at h2
  simp only [XV.rel, CV.rel, SV.rel] at h1
  obtain ⟨n0, n1, hO, es, clock, hb, hs, hl⟩ := hr c (by simp) _ hm
  have hn := mapP_nodup hs hl
  have hlt := (Array.getElem?_eq_some_iff.1 hb).1
  have main : ∃ es', (Builtin.delete_ #[t, kt'] o.type #[.map (some (β c).blk), kx a]).run P w = .ok (.tuple #[]) (ChangeMaps.setBlock w (β c).blk (.map es' clock)) ∧ Stamped es' clock ∧ es'.toList.map (fun e => (e.key, e.val)) = (mdel l a).map fun x => (kx x.1, vx x.2) := by
    rcases KL.find w a es.toList (mapP_keys hl) with ⟨g1, g2⟩ | ⟨j, e, g1, g2, g3⟩
    · refine ⟨es, ?_, hs, by rw [mdel_none (mapP_none hl g2)]; exact hl⟩
      simp [Builtin.delete_, run_underlying ht, MapKept.run_getObj_map hb, KL.check w _ a, g1, MapKept.run_setObj_map _ hb, Result.andThen, ChangeMaps.setBlock]
    · obtain ⟨v0, g4, g5⟩ := mapP_some KL.inj hl g2 g3
      have hjs : j < es.size := by simpa using (List.getElem?_eq_some_iff.1 g2).1
      have hsub : (es.eraseIdxIfInBounds j).toList = es.toList.eraseIdx j := by
        unfold Array.eraseIdxIfInBounds
        rw [dif_pos hjs]
        simp
      refine ⟨es.eraseIdxIfInBounds j, ?_, stamped_erase hs j, ?_⟩
      · simp [Builtin.delete_, run_underlying ht, MapKept.run_getObj_map hb, KL.check w _ a, g1, MapKept.run_setObj_map _ hb, Result.andThen, ChangeMaps.setBlock]
      · rw [hsub, mdel_some hn g4, ChangeMaps.map_eraseIdx, ChangeMaps.map_eraseIdx, hl]
  obtain ⟨es', m1, m2, m3⟩ := main
  have hrun : (execOp ac.eval o).run P w = .ok (.value (.tuple #[])) (ChangeMaps.setBlock w (β c).blk (.map es' clock)) := by
    simp [execOp, ho, resolve, invoke, builtin, h1, h2, m1]
  refine upon_value hrun (hK β ow _ _ (Eff.setB hw d c ((hO _).2 rfl) _) ⟨_, rfl, rfl⟩ (fun c' ch hc => ?_))
  simp only [Mem.get, nbeq] at hc
  by_cases hcc : c = c'
  · subst hcc
    simp only [decide_true, cond_true, Option.some.injEq] at hc
    subst hc
    exact ⟨n0, n1, hO, es', clock, by simp [ChangeMaps.setBlock, hlt], m2, m3⟩
  · simp [hcc] at hc

omit [DecidableEq K] in
/-- 'make(map[K]V)'. -/
theorem makeMap_op (kx : K → Value) (vx : V → Value) {t : TypeId} (ho : o.op = .makeMap t none) : OpSound P S d o { v := XV.sv (.map d), upd := [(d, .abs (MapP kx vx ([] : List (K × V))))] } [] := by
  intro β ow w ac K' Q hw hfr _ _ hK
  have hrun : (execOp ac.eval o).run P w = .ok (.value (.map (some w.heap.size))) (w.alloc (.map #[] 0)) := by
    simp [execOp, ho]
    rfl
  refine upon_value hrun (hK _ _ _ _ (Eff.alloc hw d ⟨w.heap.size, 0, 0, false, fun _ => 0⟩ _) (by simp [XV.rel, CV.rel, SV.rel, setβ]) (fun c' ch hc => ?_))
  simp only [Mem.get, nbeq] at hc
  by_cases hcc : d = c'
  · subst hcc
    simp only [decide_true, cond_true, Option.some.injEq] at hc
    subst hc
    refine ⟨by simp [setβ], by simp [setβ], ?_, #[], 0, ?_, stamped_empty 0, rfl⟩
    · intro k
      simp only [setβ, if_true, setow]
      by_cases hk : k = w.heap.size
      · simp [hk]
      · simp only [hk, if_false, iff_false]
        exact hfr k
    · simp only [setβ, if_true]
      exact heap_alloc_new w _
  · simp [hcc] at hc

omit [DecidableEq K] in
/-- 'len(m)'. -/
theorem mapLen_op (ht : P.underlying t = some (.map kt et)) {x : Operand} (ho : o.op = .call { callee := .builtin .len, args := #[x], argTypes := #[t] }) {c : Nat} (hx : S.ev x = some (XV.sv (.map c))) (hm : S.mem.get c = some (.abs (MapP kx vx l))) : OpSound P S d o { v := XV.int .i64 l.length } [c] := by
  refine read_op fun β ow w ac hw hops hr => ?_
  have h1 := hops x (by rw [ho]; simp [Op.operands, Call.operands]) _ hx
  simp only [XV.rel, CV.rel, SV.rel] at h1
  obtain ⟨_, _, _, es, clock, hb, hs, hl⟩ := hr c (by simp) _ hm
  have hlen : es.size = l.length := by
    have := congrArg List.length hl
    simpa using this
  refine ⟨.int .i64 l.length, ?_, rfl⟩
  simp [execOp, ho, resolve, invoke, builtin, Builtin.len_, run_underlying ht, h1, MapKept.run_getObj_map hb, goInt, hlen]
end
end Go.Sx
