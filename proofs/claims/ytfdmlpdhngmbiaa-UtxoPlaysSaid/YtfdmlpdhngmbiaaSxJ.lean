/- Symbolic states for walks, part J: the step is sound. -/
import Derived.Test.YtfdmlpdhngmbiaaSxI
namespace Go.Sx
open Go.RowKit

section
variable {P : Program} {T : TyTab} {S : St} {d : Nat} {o : Oper}

theorem run_newVar (t : TypeId) (v : Value) (w : World) : (newVar t v).run P w = .ok ⟨w.heap.size, 0, none⟩ (w.alloc (.cells v.cells t)) := by
  simp [newVar, newRow]

theorem eval_sv {β : Nat → Loc} {a : Act} (hx : ∀ x ∈ o.op.operands, ∀ X, S.ev x = some X → X.rel β (a.eval x)) {x : Operand} (hm : x ∈ o.op.operands) {s : SV} (h : S.ev x = some (.cv (.one s))) : s.rel β (a.eval x) := hx x hm _ h

theorem slc_slice {β : Nat → Loc} {c sz l n p q : Nat} {x : Value} (hx : (SV.slc c sz l n).rel β x) (h1 : p ≤ q) (h2 : q ≤ n) : ∃ a cap, x = .slice a n cap ∧ q ≤ cap ∧ (SV.slc c sz (l + p) (q - p)).rel β (.slice (if cap = p then a else a.map (·.add (p * sz))) (q - p) (cap - p)) := by
  simp only [SV.rel] at hx
  by_cases hn : (β c).nil = true
  · rw [if_pos hn] at hx
    obtain ⟨rfl, rfl, rfl⟩ := hx
    obtain rfl : q = 0 := by omega
    obtain rfl : p = 0 := by omega
    refine ⟨none, 0, rfl, Nat.le_refl _, ?_⟩
    simp only [SV.rel, if_pos hn]
    simp
  · rw [if_neg hn] at hx
    obtain ⟨a, rfl, h3, h4⟩ := hx
    refine ⟨some a, (β c).cap - l, rfl, by omega, ?_⟩
    simp only [SV.rel, if_neg hn]
    by_cases he : (β c).cap - l = p
    · rw [if_pos he]
      exact ⟨a, by rw [Nat.sub_sub], by omega, fun hlt => by omega⟩
    · rw [if_neg he]
      refine ⟨a.add (p * sz), by rw [Nat.sub_sub, Option.map_some], by omega, fun hlt => ?_⟩
      rw [h4 (by omega), loc_add, Nat.add_mul]

theorem sliceBound_ok {k : IntKind} {i : Int} {y : Nat} (h0 : 0 ≤ i) (h1 : i ≤ y) (code : BoundsCode) (w : World) : (Instr.sliceBound (.int k i) y code).run P w = .ok i.toNat w := by
  simp [Instr.sliceBound, asIntOf, h0, h1]

theorem run_slice_sl {t e : TypeId} {te : TyD} (hT : TabOK P T) (hu : P.underlying t = some (.slice e)) (he : T e = some te) {a : Option Addr} {n cap : Nat} {lo hi : Option Value} {p q : Nat} (hhi : (∃ k v, hi = some (.int k v) ∧ 0 ≤ v ∧ v.toNat = q) ∨ hi = none ∧ q = n) (hlo : (∃ k v, lo = some (.int k v) ∧ 0 ≤ v ∧ v.toNat = p) ∨ lo = none ∧ p = 0)
    (hpq : p ≤ q) (hq : q ≤ cap) (w : World) : (Instr.sliceAt t (.slice a n cap) lo hi none).run P w = .ok (.slice (if cap = p then a else a.map (·.add (p * te.size))) (q - p) (cap - p)) w := by
  have hsz := run_size (P := P) hT he w
  have hb : (Instr.sliceBounds true n cap lo hi none).run P w = .ok (p, q, cap) w := by
    unfold Instr.sliceBounds
    rcases hhi with ⟨k, v, rfl, h1, h2⟩ | ⟨rfl, rfl⟩
    · have hv : v ≤ (cap : Int) := by omega
      have e1 := sliceBound_ok (P := P) (k := k) h1 hv .sliceAcap w
      rw [h2] at e1
      rcases hlo with ⟨k', v', rfl, h3, h4⟩ | ⟨rfl, rfl⟩
      · have hv' : v' ≤ (q : Int) := by omega
        have e2 := sliceBound_ok (P := P) (k := k') h3 hv' .sliceB w
        rw [h4] at e2
        simp [e1, e2]
      · simp [e1]
    · rcases hlo with ⟨k', v', rfl, h3, h4⟩ | ⟨rfl, rfl⟩
      · have hv' : v' ≤ (q : Int) := by omega
        have e2 := sliceBound_ok (P := P) (k := k') h3 hv' .sliceB w
        rw [h4] at e2
        simp [e2]
      · simp
  simp [Instr.sliceAt, run_underlying hu, Instr.slice, hb, hsz]

theorem store_op (hT : TabOK P T) {t : TypeId} {x y : Operand} (ho : o.op = .store t x y) {s : SV} {v : CV} (hx : S.ev x = some (.cv (.one s))) (hy : S.ev y = some (.cv v)) {c : Nat} {ch : Chunk} (h : storeX T S.mem t s v = some (c, ch)) : OpSound P S d o { v := XV.val undef, upd := [(c, ch)], wr := [c] } [c] := by
  intro β ow w a K Q hw _ hops hr hK
  have hmx : x ∈ o.op.operands := by rw [ho]; simp [Op.operands]
  have hmy : y ∈ o.op.operands := by rw [ho]; simp [Op.operands]
  have h1 := hops x hmx _ hx
  have h2 := hops y hmy _ hy
  cases s with
  | ptr c0 i sz j =>
    simp only [storeX] at h
    split at h
    · rename_i td e cs htd hm
      cases hb : setCells cs (i * sz + j) v td.size with
      | none => simp [hb] at h
      | some cs' =>
        simp only [hb, Option.some.injEq, Prod.mk.injEq] at h
        obtain ⟨rfl, rfl⟩ := h
        unfold setCells at hb
        cases hc : ((Nat.beq v.cells.length td.size && Nat.ble (i * sz + j + v.cells.length) cs.length) && v.fine) with
        | false => simp only [hc, cond_false] at hb; cases hb
        | true =>
          simp only [hc, cond_true, Option.some.injEq] at hb
          subst hb
          simp only [nbeq, Bool.and_eq_true, decide_eq_true_eq, Nat.ble_eq] at hc
          obtain ⟨⟨b1, b2⟩, b3⟩ := hc
          obtain ⟨g1, g2, g3, arr, g4, g5⟩ := hr c0 (by simp) _ hm
          obtain ⟨k1, k2⟩ := CV.rel_cells h2 b3
          have hl1 := k1.length
          have hl2 := g5.length
          simp only [Array.length_toList] at hl1 hl2
          have hsz := run_size (P := P) hT htd w
          simp only [XV.rel, CV.rel, SV.rel] at h1
          have hst := run_storeCells_at P (β c0).blk (i * sz + j) e (a.eval y).cells.toList 0 arr w g4 (by simp; omega) k2
          simp only [Nat.add_zero, Array.length_toList] at hst
          have hrun : (execOp a.eval o).run P w = .ok .skip (w.setRow (β c0).blk (arr.toList.take (i * sz + j) ++ (a.eval y).cells.toList ++ arr.toList.drop (i * sz + j + (a.eval y).cells.size)).toArray) := by
            have e0 : (β c0).addr (i * sz + j) = ⟨(β c0).blk, i * sz + j, none⟩ := by simp [Loc.addr, g2]
            have hne : ¬ (a.eval y).cells.size ≠ td.size := by omega
            simp only [execOp, ho, h1, Instr.storeAt, Instr.sureAddr, storeVar, e0, Sem.run_bind, Sem.run_pure, Result.andThen_ok, hsz, if_neg hne, Sem.run_ite, hst]
          refine upon_skip hrun (hK β ow _ undef (Eff.setRow hw d c0 g3 _) rfl (fun c ch hc => ?_))
          simp only [Mem.get, nbeq] at hc
          by_cases hcc : c0 = c
          · subst hcc
            simp only [decide_true, cond_true, Option.some.injEq] at hc
            subst hc
            refine ⟨g1, g2, g3, _, setRow_heap w _ arr _ e _ g4, ?_⟩
            simp only [laid]
            rw [← hl1] 
            simp only [List.append_assoc]
            exact (g5.take _).append (k1.append (g5.drop _))
          · simp [hcc] at hc
    · cases h
  | raw v => simp [storeX] at h
  | slc c sz lo len => simp [storeX] at h
  | map c => simp [storeX] at h
  | inn c j => simp [storeX] at h

set_option maxHeartbeats 1000000 in
theorem stepOp_sound (hT : TabOK P T) : StepSound P (stepOp T) := by
  intro S d o np r rd h hnp
  unfold stepOp at h
  split at h
  · -- move
    rename_i x ho
    split at h
    · rename_i X hX
      cases h
      exact pure_op fun β w a hx => ⟨_, by simp [execOp, ho], hx x (by rw [ho]; simp [Op.operands]) X hX⟩
    · cases h
  · -- assign
    rename_i x ho
    split at h
    · rename_i X hX
      cases h
      exact pure_op fun β w a hx => ⟨_, by simp [execOp, ho], hx x (by rw [ho]; simp [Op.operands]) X hX⟩
    · cases h
  · -- pick
    rename_i c x y ho
    split at h
    · rename_i b hc
      split at h
      · rename_i X hX
        cases h
        refine pure_op fun β w a hx => ⟨a.eval x, ?_, hx x (by rw [ho]; simp [Op.operands]) X hX⟩
        have := hx c (by rw [ho]; simp [Op.operands]) _ hc
        simp only [XV.rel, CV.rel, SV.rel] at this
        simp [execOp, ho, this, asBool]
      · rename_i Y hY
        cases h
        refine pure_op fun β w a hx => ⟨a.eval y, ?_, hx y (by rw [ho]; simp [Op.operands]) Y hY⟩
        have := hx c (by rw [ho]; simp [Op.operands]) _ hc
        simp only [XV.rel, CV.rel, SV.rel] at this
        simp [execOp, ho, this, asBool]
      · cases h
    · cases h
  · -- alloc
    rename_i e ho
    split at h
    · rename_i td htd
      cases h
      refine alloc_op (L := fun w => ⟨w.heap.size, 0, 0, false, fun _ => 0⟩) (fun w => ⟨rfl, rfl, rfl⟩) (by simp [List.all_map, Function.comp_def, SV.ok]) fun β w a hx => ?_
      obtain ⟨z, h1, h2⟩ := run_zero (P := P) hT htd w
      refine ⟨.pointer (some ⟨w.heap.size, 0, none⟩), z.cells, ?_, by rw [h2]; exact Rels.raw _, ?_⟩
      · simp [execOp, ho, Instr.alloc, h1, run_newVar]
      · simp [XV.rel, CV.rel, SV.rel, setβ, Loc.addr]
    · cases h
  · -- box
    rename_i e x ho
    split at h
    · rename_i c hc
      cases hb : (c.fine && c.cells.all (SV.ok fun i => !Nat.beq i d)) with
      | false => simp only [hb, cond_false] at h; cases h
      | true =>
        simp only [hb, cond_true] at h
        cases h
        simp only [Bool.and_eq_true] at hb
        refine alloc_op (L := fun w => ⟨w.heap.size, 0, 0, false, fun _ => 0⟩) (fun w => ⟨rfl, rfl, rfl⟩) hb.2 fun β w a hx => ?_
        have h1 := hx x (by rw [ho]; simp [Op.operands]) _ hc
        refine ⟨.pointer (some ⟨w.heap.size, 0, none⟩), (a.eval x).cells, ?_, (CV.rel_cells h1 hb.1).1, ?_⟩
        · simp [execOp, ho, Instr.box, run_newVar]
        · simp [XV.rel, CV.rel, SV.rel, setβ, Loc.addr]
    · cases h
  · -- build
    rename_i t parts ho
    split at h
    · rename_i cs hcs
      cases h
      refine pure_op fun β w a hx => ?_
      obtain ⟨arr, h1, h2⟩ := build_ok (P := P) hT hcs (β := β) (w := w) (a := a) (fun y hy X hX => hx y.2 (by rw [ho]; simp only [Op.operands]; simp; exact ⟨y.1, by simpa using hy⟩) X hX)
      exact ⟨.agg arr, by simp [execOp, ho, h1], arr, rfl, h2⟩
    · cases h
  · -- buildSlice
    rename_i t n parts ho
    split at h
    · rename_i e sz cs hcs
      cases hbr : cs.all SV.rawB with
      | false => simp only [hbr, cond_false] at h; cases h
      | true =>
        have hb : cs.all (SV.ok fun i => !Nat.beq i d) = true := by
          simp only [List.all_eq_true] at hbr ⊢
          intro s hs
          have := hbr s hs
          cases s <;> first | rfl | cases this
        simp only [hbr, cond_true] at h
        cases h
        unfold buildSliceX at hcs
        split at hcs
        · rename_i size bytes agg z e' ht
          have hu := under_slice hT ht rfl
          split at hcs
          · rename_i te hte
            cases hb2 : (Nat.ble (n * te.size) 16777216 && Nat.beq te.zero.length te.size) with
            | false => simp only [hb2, cond_false] at hcs; cases hcs
            | true =>
              simp only [hb2, cond_true] at hcs
              split at hcs
              · rename_i cs' hf
                cases hcs
                simp only [Bool.and_eq_true, Nat.ble_eq, nbeq, decide_eq_true_eq] at hb2
                refine alloc_op (L := fun w => ⟨w.heap.size, 0, n, false, fun _ => 0⟩) (fun w => ⟨rfl, rfl, rfl⟩) hb fun β w a hx => ?_
                obtain ⟨z', hz1, hz2⟩ := run_zero (P := P) hT hte w
                obtain ⟨_, _, _, _, _, _, _, _, _, h1z⟩ := info_of hT hte
                have hzs : z'.cells.size = te.size := by rw [← Array.length_toList, hz2, hb2.2]
                have hops : ∀ y ∈ parts.toList, ∀ X, S.ev y.2 = some X → X.rel β (a.eval y.2) := fun y hy X hX => hx y.2 (by rw [ho]; simp only [Op.operands]; simp; exact ⟨y.1, by simpa using hy⟩) X hX
                have hzl : z'.cells.size = te.zero.length := by rw [hzs, hb2.2]
                have hz0 : Rels β (zeros te.zero n) ((Array.range (n * te.size)).map fun i => z'.cells[i % z'.cells.size]!).toList := by
                  have e1 : ((Array.range (n * te.size)).map fun i => z'.cells[i % z'.cells.size]!).toList = (List.range (n * te.zero.length)).map fun i => te.zero.getD (i % te.zero.length) undef := by
                    simp only [Array.toList_map, Array.toList_range, hb2.2]
                    apply List.map_congr_left
                    intro i hi
                    have hi' := List.mem_range.1 hi
                    have hpos : 0 < te.size := by
                      rcases Nat.eq_zero_or_pos te.size with h0 | h0
                      · rw [h0] at hi'; simp at hi'
                      · exact h0
                    have hlt : i % te.size < z'.cells.size := by rw [hzs]; exact Nat.mod_lt _ hpos
                    rw [hzs, getElem!_pos z'.cells _ hlt]
                    have : te.zero[i % te.size]? = some z'.cells[i % te.size] := by rw [← hz2]; simp [hlt]
                    simp [List.getD_eq_getElem?_getD, this]
                  rw [e1]
                  exact Rels.raw _
                have hone : (zeros te.zero n).all SV.one = true := by
                  unfold zeros
                  refine zero_one ?_
                  rw [List.all_eq_true]
                  intro v hv
                  obtain ⟨i, hi, rfl⟩ := List.mem_map.1 hv
                  have hi' := List.mem_range.1 hi
                  have hpos : 0 < te.zero.length := by
                    rcases Nat.eq_zero_or_pos te.zero.length with h0 | h0
                    · rw [h0] at hi'; simp at hi'
                    · exact h0
                  have hlt : i % te.zero.length < te.zero.length := Nat.mod_lt _ hpos
                  rw [List.getD_eq_getElem?_getD, List.getElem?_eq_getElem hlt]
                  exact List.all_eq_true.1 h1z _ (List.getElem_mem hlt)
                obtain ⟨arr', e1, e2, e3⟩ := fillX_sound (ρ := a.eval) parts.toList _ _ ((Array.range (n * te.size)).map fun i => z'.cells[i % z'.cells.size]!) hops hf hz0 hone
                refine ⟨.slice (some ⟨w.heap.size, 0, none⟩) n n, arr', ?_, e2, ?_⟩
                · have hsz := run_size (P := P) hT hte w
                  have hle : ¬ n * te.size > 2 ^ 24 := by have := hb2.1; omega
                  have hl : (parts.map fun (i, x) => (i, a.eval x)).toList = parts.toList.map fun x => (x.1, a.eval x.2) := by simp
                  by_cases h0 : n * te.size = 0
                  · have e1' : Instr.fill (fun i => some (i * te.size, te.size)) ((Array.range (n * te.size)).map fun i => (#[] : Array Value)[i % (#[] : Array Value).size]!) (parts.toList.map fun x => (x.1, a.eval x.2)) = some arr' := by
                      rw [← e1]; congr 1; simp [h0]
                    simp only [execOp, ho, Instr.buildSlice, run_underlying hu, Sem.run_bind, Result.andThen_ok, hsz, if_neg hle, if_pos h0, hl, Sem.run_pure, e1', newRow, run_newObj, World.alloc_eq]
                  · simp only [execOp, ho, Instr.buildSlice, run_underlying hu, Sem.run_bind, Result.andThen_ok, hsz, if_neg hle, if_neg h0, hz1, hl, Sem.run_pure, e1, newRow, run_newObj, World.alloc_eq]
                · simp [XV.rel, CV.rel, SV.rel, setβ, Loc.addr]
              · cases hcs
          · cases hcs
        · cases hcs
    · cases h
  · -- load
    rename_i t x ho
    split at h
    · rename_i s hs
      split at h
      · rename_i np' v c hl
        cases h
        refine read_op fun β ow w a hw hx hr => ?_
        have h1 := eval_sv hx (by rw [ho]; simp [Op.operands]) hs
        obtain ⟨y, h2, h3⟩ := loadX_ok (P := P) (ow := ow) hT hl hnp h1 (hr c (by simp))
        exact ⟨y, by simp [execOp, ho, h2], h3⟩
      · cases h
    · cases h
  · -- store
    rename_i t x y ho
    split at h
    · rename_i s v hs hv
      split at h
      · rename_i c ch hst
        cases h
        exact store_op hT ho hs hv hst
      · cases h
    · cases h
  · -- nilCheck
    rename_i x ho
    split at h
    · rename_i c i sz j hs
      cases h
      refine pure_op fun β w a hx => ?_
      have h1 := eval_sv hx (by rw [ho]; simp [Op.operands]) hs
      simp only [SV.rel] at h1
      exact ⟨_, by simp [execOp, ho, h1], rfl⟩
    · rename_i ad hs
      cases h
      refine pure_op fun β w a hx => ?_
      have h1 := eval_sv hx (by rw [ho]; simp [Op.operands]) hs
      simp only [SV.rel] at h1
      exact ⟨_, by simp [execOp, ho, h1], rfl⟩
    · cases h
  · -- binOp
    rename_i op t x y yt ho
    split at h
    · rename_i s u hs hu
      unfold valR at h
      split at h
      · rename_i p v hv
        cases h
        refine pure_op fun β w a hx => ?_
        have h1 := eval_sv hx (by rw [ho]; simp [Op.operands]) hs
        have h2 := eval_sv hx (by rw [ho]; simp [Op.operands]) hu
        have := binX_ok (P := P) (w := w) hT hv hnp h1 h2 x y
        simp only [Sem.run_bind] at this
        exact ⟨v, by simp only [execOp, ho, Sem.run_bind, this, Result.andThen_ok, Sem.run_pure], rfl⟩
      · cases h
    · cases h
  · -- unOp
    rename_i op t x ho
    split at h
    · rename_i s hs
      unfold valR at h
      split at h
      · rename_i p v hv
        cases h
        refine pure_op fun β w a hx => ?_
        have h1 := eval_sv hx (by rw [ho]; simp [Op.operands]) hs
        exact ⟨v, by simp [execOp, ho, unX_ok (P := P) (w := w) hv h1], rfl⟩
      · cases h
    · cases h
  · -- convert
    rename_i src dst x ho
    split at h
    · rename_i tds size bytes agg z k k' n hsrc hdst hs
      cases h
      refine pure_op fun β w a hx => ?_
      have h1 := eval_sv hx (by rw [ho]; simp [Op.operands]) hs
      simp only [SV.rel] at h1
      obtain ⟨u, hu, _⟩ := desc_under hT hsrc
      have hd := under_int hT hdst rfl
      exact ⟨_, by simp [execOp, ho, h1, convert, run_underlying hu, run_underlying hd, Conv.intToInt], rfl⟩
    · cases h
  · -- fieldAddr
    rename_i s x f ho
    split at h
    · rename_i c i sz j ft off hs hf
      split at h
      · rename_i td htd
        cases hb : Nat.ble 1 td.size with
        | false => simp only [hb, cond_false] at h; cases h
        | true =>
          simp only [hb, cond_true] at h
          cases h
          simp only [Nat.ble_eq] at hb
          refine pure_op fun β w a hx => ?_
          have h1 := eval_sv hx (by rw [ho]; simp [Op.operands]) hs
          simp only [SV.rel] at h1
          obtain ⟨fl, fd, hu, hfd, rfl, rfl⟩ := fieldOf_ok hT hf
          have hsz := run_size (P := P) hT htd w
          refine ⟨.pointer (some ((β c).addr (i * sz + (j + fd.offset)))), ?_, rfl⟩
          have hne : ¬ td.size = 0 := by omega
          simp only [execOp, ho, h1, Instr.fieldAt, run_underlying hu, Sem.run_bind, Result.andThen_ok, hfd, Instr.sureAddr, Sem.run_pure, fieldPlace, hsz, Sem.run_ite, if_neg hne, loc_add, Nat.add_assoc]
      · cases h
    · cases h
  · -- field
    rename_i s x f ho
    split at h
    · rename_i cs ft off hs hf
      split at h
      · rename_i td htd
        cases hb : Nat.beq ((cs.drop off).take td.size).length td.size with
        | false => simp only [hb, cond_false] at h; cases h
        | true =>
          simp only [hb, cond_true] at h
          split at h
          · rename_i v hv
            cases h
            refine pure_op fun β w a hx => ?_
            obtain ⟨arr, h1, h2⟩ := hx x (by rw [ho]; simp [Op.operands]) _ hs
            obtain ⟨fl, fd, hu, hfd, rfl, rfl⟩ := fieldOf_ok hT hf
            have hsz := run_size (P := P) hT htd w
            obtain ⟨i, u, g1, g2, g3, _, g5, _⟩ := info_of hT htd
            have hagg : (isAgg fd.type).run P w = .ok td.agg w := by
              unfold isAgg
              rw [Sem.run_bind, run_underlying g2 w, ← g5]
              cases u <;> rfl
            have hlen := Nat.eq_of_beq_eq_true hb
            have hsub := (h2.drop fd.offset).take td.size
            cases ha : td.agg with
            | true =>
              simp only [ha, mkCV, Option.some.injEq] at hv
              subst hv
              refine ⟨.agg (arr.extract fd.offset (fd.offset + td.size)), ?_, _, rfl, ?_⟩
              · simp [execOp, ho, h1, Instr.field, run_underlying hu, hfd, asAgg, part, hagg, ha, hsz]
              · rw [Array.toList_extract]
                simpa [List.extract] using hsub
            | false =>
              rw [ha] at hv
              cases hsubl : (cs.drop fd.offset).take td.size with
              | nil => rw [hsubl] at hv; simp [mkCV] at hv
              | cons s0 r =>
                cases r with
                | cons _ _ => rw [hsubl] at hv; simp [mkCV] at hv
                | nil =>
                  rw [hsubl] at hv hsub
                  simp only [mkCV, Option.some.injEq] at hv
                  subst hv
                  obtain ⟨y, r, he, hy, _⟩ := hsub
                  have hget : arr[fd.offset]? = some y := by
                    have : ((arr.toList.drop fd.offset).take td.size)[0]? = some y := by rw [he]; rfl
                    rw [List.getElem?_take, List.getElem?_drop] at this
                    split at this
                    · simpa using this
                    · cases this
                  exact ⟨y, by simp [execOp, ho, h1, Instr.field, run_underlying hu, hfd, asAgg, part, hagg, ha, hget], hy⟩
          · cases h
      · cases h
    · cases h
  · -- indexAddr
    rename_i t x i ho
    split at h
    · rename_i size bytes agg z e c sz lo len k n ht hs hi
      split at h
      · rename_i te hte
        cases hb : Nat.beq te.size sz with
        | false => simp only [hb, cond_false] at h; cases h
        | true =>
          simp only [hb, cond_true] at h
          cases h
          have hb := Nat.eq_of_beq_eq_true hb
          obtain ⟨hn0, hn1⟩ := hnp _ rfl
          refine pure_op fun β w a hx => ?_
          have h1 := eval_sv hx (by rw [ho]; simp [Op.operands]) hs
          have h2 := eval_sv hx (by rw [ho]; simp [Op.operands]) hi
          simp only [SV.rel] at h1 h2
          have hu := under_slice hT ht rfl
          have hsz := run_size (P := P) hT hte w
          by_cases hn : (β c).nil = true
          · rw [if_pos hn] at h1; omega
          · rw [if_neg hn] at h1
            obtain ⟨ad, h3, h4, h5⟩ := h1
            refine ⟨.pointer (some ((β c).addr ((lo + n.toNat) * sz + 0))), ?_, rfl⟩
            have e5 := h5 (by omega)
            simp only [execOp, ho, h2, h3, Instr.indexAt, asIntOf, run_underlying hu, Sem.run_bind, Sem.run_pure, Result.andThen_ok]
            simp [hn0, hn1, hsz, e5, loc_add, Nat.add_mul, hb]
      · cases h
    · rename_i size bytes agg z m e c k sz j kk n ht hs hi
      split at h
      · rename_i te hte
        cases h
        obtain ⟨hn0, hn1⟩ := hnp _ rfl
        refine pure_op fun β w a hx => ?_
        have h1 := eval_sv hx (by rw [ho]; simp [Op.operands]) hs
        have h2 := eval_sv hx (by rw [ho]; simp [Op.operands]) hi
        simp only [SV.rel] at h1 h2
        have hu := under_array hT ht rfl
        have hsz := run_size (P := P) hT hte w
        refine ⟨.pointer (some ((β c).addr (k * sz + (j + n.toNat * te.size)))), ?_, rfl⟩
        simp only [execOp, ho, h2, h1, Instr.indexAt, asIntOf, run_underlying hu, Sem.run_bind, Sem.run_pure, Result.andThen_ok]
        simp [hn0, hn1, hsz, loc_add, Instr.sureAddr, Nat.add_assoc]
      · cases h
    · cases h
  · -- extract
    rename_i x i ho
    split at h
    · rename_i l hs
      split at h
      · rename_i v hv
        cases h
        refine pure_op fun β w a hx => ?_
        obtain ⟨arr, h1, h2⟩ := hx x (by rw [ho]; simp [Op.operands]) _ hs
        rw [lnth_eq] at hv
        obtain ⟨y, h3, h4⟩ := h2.get i v hv
        exact ⟨y, by simp [execOp, ho, h1, Instr.extract, show arr[i]? = some y by simpa using h3], h4⟩
      · cases h
    · cases h
  · -- len
    rename_i args argTypes ho
    split at h
    · rename_i x t ha hta
      have ha' : args = #[x] := by cases args; simp at ha; rw [ha]
      have hta' : argTypes = #[t] := by cases argTypes; simp at hta; rw [hta]
      subst ha' hta'
      split at h
      · rename_i size bytes agg z e c sz lo n ht hs
        cases h
        refine pure_op fun β w a hx => ?_
        have h1 := eval_sv hx (by rw [ho]; simp [Op.operands, Call.operands]) hs
        have hu := under_slice hT ht rfl
        refine ⟨.int .i64 n, ?_, rfl⟩
        simp only [SV.rel] at h1
        split at h1
        · obtain ⟨h1, _, rfl⟩ := h1
          simp [execOp, ho, resolve, invoke, builtin, Builtin.len_, run_underlying hu, h1, goInt]
        · obtain ⟨ad, h1, _⟩ := h1
          simp [execOp, ho, resolve, invoke, builtin, Builtin.len_, run_underlying hu, h1, goInt]
      · rename_i size bytes agg z e ad n cp ht hs
        cases h
        refine pure_op fun β w a hx => ?_
        have h1 := eval_sv hx (by rw [ho]; simp [Op.operands, Call.operands]) hs
        have hu := under_slice hT ht rfl
        simp only [SV.rel] at h1
        exact ⟨.int .i64 n, by simp [execOp, ho, resolve, invoke, builtin, Builtin.len_, run_underlying hu, h1, goInt], rfl⟩
      · rename_i size bytes agg z s ht hs
        cases h
        refine pure_op fun β w a hx => ?_
        have h1 := eval_sv hx (by rw [ho]; simp [Op.operands, Call.operands]) hs
        have hu := under_str hT ht rfl
        simp only [SV.rel] at h1
        exact ⟨.int .i64 s.size, by simp [execOp, ho, resolve, invoke, builtin, Builtin.len_, run_underlying hu, h1, goInt], rfl⟩
      · cases h
    · cases h
  · -- slice
    rename_i t x lo hi ho
    split at h
    · rename_i size bytes agg z e c sz l n ht hs
      split at h
      · rename_i te hte
        cases hb : Nat.beq te.size sz with
        | false => simp only [hb, cond_false] at h; cases h
        | true =>
          simp only [hb, cond_true] at h
          have hb := Nat.eq_of_beq_eq_true hb
          have hu := under_slice hT ht rfl
          have fin : ∀ (p q : Nat) (X : XV), X = XV.sv (.slc c sz (l + p) (q - p)) → (∀ β (a : Act), (∀ x ∈ o.op.operands, ∀ X, S.ev x = some X → X.rel β (a.eval x)) →
              p ≤ q ∧ q ≤ n ∧ ((∃ k v, hi.map a.eval = some (.int k v) ∧ 0 ≤ v ∧ v.toNat = q) ∨ hi.map a.eval = none ∧ q = n) ∧ ((∃ k v, lo.map a.eval = some (.int k v) ∧ 0 ≤ v ∧ v.toNat = p) ∨ lo.map a.eval = none ∧ p = 0)) → OpSound P S d o { v := X } [] := by
            intro p q X hX hh
            subst hX
            refine pure_op fun β w a hx => ?_
            obtain ⟨h1, h2, h3, h4⟩ := hh β a hx
            have h5 := eval_sv hx (by rw [ho]; simp [Op.operands]) hs
            obtain ⟨ad, cap, h6, h7, h8⟩ := slc_slice h5 h1 h2
            have := run_slice_sl (P := P) hT hu hte (a := ad) (n := n) (cap := cap) h3 h4 h1 h7 w
            rw [hb] at this
            exact ⟨_, by simp [execOp, ho, h6, this], h8⟩
          split at h
          · cases h
            exact fin 0 n _ (by simp) fun β a hx => ⟨Nat.zero_le _, Nat.le_refl _, .inr ⟨rfl, rfl⟩, .inr ⟨rfl, rfl⟩⟩
          · rename_i a'
            split at h
            · rename_i k p hp
              cases h
              obtain ⟨h1, h2⟩ := hnp _ rfl
              refine fin p.toNat n _ rfl fun β a hx => ?_
              have h3 := eval_sv hx (x := a') (by rw [ho]; simp [Op.operands]) hp
              exact ⟨by omega, Nat.le_refl _, .inr ⟨rfl, rfl⟩, .inl ⟨k, p, by simp only [Option.map_some]; rw [h3], h1, rfl⟩⟩
            · cases h
          · rename_i b'
            split at h
            · rename_i k q hq
              cases h
              obtain ⟨h1, h2⟩ := hnp _ rfl
              refine fin 0 q.toNat _ (by simp) fun β a hx => ?_
              have h3 := eval_sv hx (x := b') (by rw [ho]; simp [Op.operands]) hq
              exact ⟨Nat.zero_le _, by omega, .inl ⟨k, q, by simp only [Option.map_some]; rw [h3], h1, rfl⟩, .inr ⟨rfl, rfl⟩⟩
            · cases h
          · rename_i a' b'
            split at h
            · rename_i k p k' q hp hq
              cases h
              obtain ⟨h1, h2, h3⟩ := hnp _ rfl
              refine fin p.toNat q.toNat _ rfl fun β a hx => ?_
              have h4 := eval_sv hx (x := a') (by rw [ho]; simp [Op.operands]) hp
              have h5 := eval_sv hx (x := b') (by rw [ho]; simp [Op.operands]) hq
              exact ⟨by omega, by omega, .inl ⟨k', q, by simp only [Option.map_some]; rw [h5], by omega, rfl⟩, .inl ⟨k, p, by simp only [Option.map_some]; rw [h4], h1, rfl⟩⟩
            · cases h
      · cases h
    · cases h
  · cases h
end
end Go.Sx
