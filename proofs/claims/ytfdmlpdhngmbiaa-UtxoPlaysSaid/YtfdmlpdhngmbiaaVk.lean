/- Copies: a map of coins, a row of steps, a whole set. -/
import Derived.Test.YtfdmlpdhngmbiaaVf
import Derived.Test.YtfdmlpdhngmbiaaUj
namespace Go.Proofs.Ytfdmlpdhngmbiaa
open Go.Sx

/-- n elements, laid flat. -/
def flatF (f : Nat → List Value) (n : Nat) : List Value := (List.range n).flatMap f
theorem flatF_succ (f : Nat → List Value) (n : Nat) : flatF f (n + 1) = flatF f n ++ f n := by simp [flatF, List.range_succ]
theorem flatF_len {f : Nat → List Value} {sz : Nat} : ∀ {n : Nat}, (∀ i, i < n → (f i).length = sz) → (flatF f n).length = n * sz
  | 0, _ => by simp [flatF]
  | n + 1, h => by
    rw [flatF_succ, List.length_append, flatF_len (fun i hi => h i (by omega)), h n (by omega), Nat.add_mul, Nat.one_mul]
theorem flatF_get {f : Nat → List Value} {sz : Nat} : ∀ {n : Nat}, (∀ i, i < n → (f i).length = sz) → ∀ i j v, i < n → (f i)[j]? = some v → (flatF f n)[i * sz + j]? = some v
  | n + 1, h, i, j, v, hi, hj => by
    have hn := flatF_len (n := n) (fun i hi => h i (by omega))
    have hjl : j < sz := by have := (List.getElem?_eq_some_iff.1 hj).1; rw [h i hi] at this; exact this
    rw [flatF_succ]
    by_cases e : i = n
    · subst e
      rw [List.getElem?_append_right (by omega), hn]
      have : i * sz + j - i * sz = j := by omega
      rw [this]; exact hj
    · have hlt : i < n := by omega
      have : (i + 1) * sz ≤ n * sz := Nat.mul_le_mul_right _ hlt
      rw [Nat.add_mul, Nat.one_mul] at this
      rw [List.getElem?_append_left (by omega)]
      exact flatF_get (fun i hi => h i (by omega)) i j v hlt hj
theorem flatF_mem {f : Nat → List Value} {n : Nat} {u : Value} (h : u ∈ flatF f n) : ∃ i, i < n ∧ u ∈ f i := by
  simp only [flatF, List.mem_flatMap, List.mem_range] at h
  exact h
theorem flatF_at {f : Nat → List Value} {sz : Nat} : ∀ {n : Nat}, (∀ i, i < n → (f i).length = sz) → ∀ k v, (flatF f n)[k]? = some v → ∃ i j, i < n ∧ j < sz ∧ k = i * sz + j ∧ (f i)[j]? = some v
  | 0, _, k, v, h => by simp [flatF] at h
  | n + 1, h, k, v, hk => by
    have hn := flatF_len (n := n) (fun i hi => h i (by omega))
    rw [flatF_succ] at hk
    by_cases hlt : k < n * sz
    · rw [List.getElem?_append_left (by omega)] at hk
      obtain ⟨i, j, h1, h2, h3, h4⟩ := flatF_at (fun i hi => h i (by omega)) k v hk
      exact ⟨i, j, by omega, h2, h3, h4⟩
    · rw [List.getElem?_append_right (by omega), hn] at hk
      have hjl := (List.getElem?_eq_some_iff.1 hk).1
      rw [h n (by omega)] at hjl
      exact ⟨n, k - n * sz, by omega, hjl, by omega, hk⟩

section
open Go.RowKit Go.Lib Go.Shelf
theorem stp_info : (Try.prog.info? 75).map (fun i => (i.zero, i.size, i.bytes)) = some (some (.agg (Stp.cells default).toArray), 21, 56) := by kernel_rfl

set_option maxHeartbeats 2000000 in
set_option maxRecDepth 100000 in
/-- slices.Clone of a row of steps. -/
theorem cloneSteps_calls (ad : Addr) (n c : Nat) (news : List Value) (w : World) (hl : news.length = n * 21) (hn : n ≤ maxLen) (hbig : n * 56 ≤ 140737488355328)
    (hc : ∀ j u, news[j]? = some u → w.cell? (ad.add j) = some u) (h1 : ∀ u ∈ news, u.oneCell' = true) :
    Calls Try.prog 35 #[.slice (some ad) n c] w fun e w' => ∃ v', e = .returned v' ∧ w'.ownsRow w.heap.size 75 21 v' n news ∧ Below w.heap.size w w' := by
  have mixed := Try.mixed
  obtain ⟨i0, hi, hz0, hz1, hz2⟩ := info_parts stp_info
  have q22 : ∀ (w : World) (a : Option Addr) (n c n' c' : Nat), (binOp .eql 68 (.slice a n c) (.slice none n' c')).run Try.prog w = .ok (.bool a.isNone) w := fun w a n c n' c' => Lib.run_eql_slice_nil w _ _ a n c n' c' Try.underlying68
  have A : Aside (∀ j u, news[j]? = some u → w.cell? (ad.add j) = some u) := hc
  clear hc
  go_enter Try.func35, Try.ntmps35
  go_wp2_with (at_builtin; refine wpList_append_own _ rfl _ _ 68 rfl w.heap.size 75 i0 _ 21 56 Try.underlying68 hi hz0 hz1 hz2 rfl (by decide) _ _ _ rfl (World.ownsRow_made w #[] 0 (Nat.le_refl _) (Nat.zero_le _) (by simp)) ad n c news rfl ?qc1 ?qc2 ?qc3 ?qc4 ?qc5 ?qc6 ?_)
  case qc1 => exact hl
  case qc2 =>
    intro j u hj
    exact Lib.cell?_alloc_some _ (A.out j u hj)
  case qc3 => exact h1
  case qc4 => rw [Nat.zero_add]; exact hn
  case qc5 => rw [Nat.zero_add]; exact hbig
  case qc6 => simp
  intro v' w1 hown hgrow hnil
  go_wp2
  go_ret
  refine ⟨v', rfl, by simpa using hown, ?_⟩
  exact ((Below.refl _ w).alloc (Nat.le_refl _) _).grown hgrow (by simp) (by intro k hk; simp [Value.ownBlock] at hk; omega)
theorem cloneSteps_nil (w : World) : Calls Try.prog 35 #[.slice none 0 0] w fun e w' => e = .returned (.slice none 0 0) ∧ w' = w := AnyE.slices_Clone_nil Try.cloneSt 0 0 w
theorem cloneMap_calls (b : Nat) (es : Array MapEntry) (clock : Nat) (w : World) (hb : w.heap[b]? = some (.map es clock)) :
    Calls Try.prog 34 #[.map (some b)] w fun e w' => e = .returned (.map (some w.heap.size)) ∧ w' = w.alloc (.map es clock) := AnyW.maps_Clone Try.clonePt b es clock w hb
end

theorem stp_one (s : Stp) (u : Value) (hu : u ∈ s.cells) : u.oneCell' = true := by
  simp only [Stp.cells, List.mem_cons, List.not_mem_nil, or_false] at hu
  rcases hu with rfl | rfl | rfl | rfl | rfl | rfl | rfl | rfl | rfl | rfl | rfl | rfl | rfl | rfl | rfl | rfl | rfl | rfl | rfl | rfl | rfl <;> rfl

theorem cloneSteps_spec (l : List Stp) (hn : l.length ≤ 1000000) {M : Mem} {c d : Nat} (hM : M.get c = some (.vec 75 21 l.length fun i => (l.getD i default).cells)) :
    CallSpec Try.prog 35 [.one (.slc c 21 0 l.length)] M d { v := XV.sv (.slc d 21 0 l.length), upd := [(d, .vec 75 21 l.length fun i => (l.getD i default).cells)] } [c] := by
  refine row_spec fun β ow w vs hw hvs hr => ?_
  have h := hr c (by simp) _ hM
  obtain ⟨v, r, rfl, hv, rfl⟩ := hvs
  simp only [CV.rel, SV.rel] at hv
  have hsz : ∀ i, i < l.length → ((fun i => (l.getD i default).cells) i).length = 21 := fun i _ => rfl
  simp only [Holds] at h
  by_cases hnil : (β c).nil = true
  · rw [if_pos hnil] at hv h
    obtain ⟨rfl, _, _⟩ := hv
    rw [h]
    refine (cloneSteps_nil w).mono ?_
    rintro e w' ⟨rfl, rfl⟩
    exact ⟨_, [], rfl, ⟨by simp, .inl ⟨rfl, rfl⟩⟩, fun i hi => absurd hi (Nat.not_lt_zero i), RowKit.Below.refl _ _⟩
  · rw [if_neg hnil] at hv h
    obtain ⟨a, rfl, hcap, ha⟩ := hv
    obtain ⟨hb, _, h1, h2, arr, harr, hsize, hf⟩ := h
    refine (cloneSteps_calls a l.length _ (flatF (fun i => (l.getD i default).cells) l.length) w (flatF_len hsz) (by simp only [maxLen]; omega) (by omega) (fun k u hk => ?_) (fun u hu => ?_)).mono ?_
    · obtain ⟨i, j, hi, hj, rfl, hij⟩ := flatF_at hsz k u hk
      have ha' := ha (by omega)
      subst ha'
      have := (hf i hi).2 j u hij
      simp only [Sx.Loc.addr, hb, Nat.zero_add, Nat.zero_mul]
      rw [addr_add]
      simp only [World.cell?, harr, Nat.zero_add]
      simpa using this
    · obtain ⟨i, _, hi⟩ := flatF_mem hu
      exact stp_one _ u hi
    · rintro e w' ⟨v', rfl, hrow, hbe⟩
      exact ⟨v', _, rfl, hrow, fun i hi => ⟨rfl, fun j v hj => flatF_get hsz i j v hi hj⟩, hbe⟩

theorem cloneMap_spec (l : List (Pt × Coin)) {M : Mem} {c d : Nat} (hM : M.get c = some (.abs (MapP Pt.v Coin.v l))) :
    CallSpec Try.prog 34 [.one (.map c)] M d { v := XV.sv (.map d), upd := [(d, .abs (MapP Pt.v Coin.v l))] } [c] := by
  intro β ow w vs hw hfresh hvs hr
  have h := hr c (by simp) _ hM
  obtain ⟨v, r, rfl, hv, rfl⟩ := hvs
  simp only [CV.rel, SV.rel] at hv
  subst hv
  obtain ⟨_, _, _, es, clock, hb, hs, hl⟩ := h
  refine (cloneMap_calls (β c).blk es clock w hb).mono ?_
  rintro e w' ⟨rfl, rfl⟩
  refine ⟨_, setβ β d ⟨w.heap.size, 0, 0, false, fun _ => 0⟩, setow ow w.heap.size (some d), rfl, Eff.alloc hw d _ _, ?_, fun c' ch hc => ?_⟩
  · simp [XV.rel, CV.rel, SV.rel, setβ]
  · simp only [Mem.get, nbeq] at hc
    by_cases hk : d = c'
    · subst hk
      simp only [decide_true, cond_true, Option.some.injEq] at hc
      subst hc
      refine ⟨by simp [setβ], by simp [setβ], ?_, es, clock, ?_, hs, hl⟩
      · intro k
        simp only [setβ, if_true, setow]
        by_cases hkw : k = w.heap.size
        · simp [hkw]
        · simp only [hkw, if_false, iff_false]
          exact hfresh k
      · simp only [setβ, if_true]
        exact alloc_new _ _
    · simp [hk] at hc

set_option maxRecDepth 100000 in
theorem ucopy_spec (S : USet) (hS : S.steps.length ≤ 1000000) {M : Mem} {c0 d : Nat} (hM : M.get c0 = some (.abs (usetP S))) (hd : Nat.beq d c0 = false) : CallSpec Try.prog 24 [.one (.ptr c0 0 0 0)] M d { v := XV.sv (.ptr d 0 0 0), upd := [(c0, .abs (usetP S)), (d, .abs (usetP S))], wr := [c0] } [c0] := by
  refine spec_obj_made Try.T_ok Try.func24 rfl [] 22 rfl hM hd (fun C hC => ?_)
  refine USet.opens S 0 rfl ?_
  refine Tri.of Try.mixed Try.T_ok ?_
  (refine wBegin ?_; ((conv => arg 5; whnf); repeat ((first | (with_reducible refine wT ?_) | (with_reducible refine wF ?_) | (with_reducible refine wO (by kernel_rfl) ?_)); refine wGo ?_; (conv => arg 5; whnf))))
  (refine wP _ _ (call_op rfl (entersB_of Try.func34 (by kernel_rfl)) rfl (cloneMap_spec S.coins rfl)) ?_; ((conv => arg 5; whnf); repeat ((first | (with_reducible refine wT ?_) | (with_reducible refine wF ?_) | (with_reducible refine wO (by kernel_rfl) ?_)); refine wGo ?_; (conv => arg 5; whnf))))
  (refine wP _ _ (call_op rfl (entersB_of Try.func35 (by kernel_rfl)) rfl (cloneSteps_spec S.steps hS rfl)) ?_; ((conv => arg 5; whnf); repeat ((first | (with_reducible refine wT ?_) | (with_reducible refine wF ?_) | (with_reducible refine wO (by kernel_rfl) ?_)); refine wGo ?_; (conv => arg 5; whnf))))
  refine wD ⟨.inr rfl, _, (USet.shuts S 22 rfl rfl rfl rfl rfl rfl (Nat.le_refl _) (fun _ _ => rfl)).trans (USet.shuts S 0 rfl rfl rfl rfl rfl rfl (Nat.le_refl _) (fun _ _ => rfl)), rfl, fun j ch hj => ?_, fun j ch hj => by cases hj; exact ⟨by decide, rfl⟩⟩
  simp only [Mem.get, nbeq] at hj
  by_cases hk : 0 = j
  · subst hk; simp at hj; subst hj; exact ⟨by decide, rfl⟩
  · simp [hk] at hj
end Go.Proofs.Ytfdmlpdhngmbiaa
