/- Parts Ub Ug Uh Hh Hi. -/
import Derived.Test.YtmoohekgheoliaaGreatDoorG11
import Derived.Test.YtmoohekgheoliaaGreatDoorG07
import Derived.Test.YtmoohekgheoliaaGreatDoorG13
set_option linter.unusedSimpArgs false
set_option linter.unusedVariables false
namespace Go.Proofs.YtmoohekgheoliaaGreatDoor
set_option maxRecDepth 100000
open Go.Sx
structure USet where
  coins : List (Pt × Coin)
  steps : List Stp
  total : Int
def USet.mem (S : USet) : Mem := [(0, .cells 105 [.map 1, .slc 2 21 0 S.steps.length, .raw (.int .i64 S.total)]), (1, .abs (MapP Pt.v Coin.v S.coins)), (2, .vec 130 21 S.steps.length fun i => (S.steps.getD i default).cells)]
def usetP (S : USet) : AbsP := packP S.mem True
theorem USet.opens {P : Program} {C : Ctx} {cd : Code} {slots : List (Option XV)} {mem : Mem} {nx : Nat} {Q : Exit → St → Prop} (S : USet) (c : Nat) (hc : mem.get c = some (.abs (usetP S)))
    (h : Tri P C cd ⟨slots, (c, .cells 105 [.map (nx + 1), .slc (nx + 2) 21 0 S.steps.length, .raw (.int .i64 S.total)]) :: (nx + 1, .abs (MapP Pt.v Coin.v S.coins)) :: (nx + 2, .vec 130 21 S.steps.length fun i => (S.steps.getD i default).cells) :: mem.del c, nx + 3⟩ Q) :
    Tri P C cd ⟨slots, mem, nx⟩ Q :=
  Tri.opens (M := S.mem) (m := 3) (inv := True) (c := c) hc rfl fun _ => h
theorem USet.shuts {C : Ctx} {slots : List (Option XV)} {mem : Mem} {nx : Nat} (S : USet) (c : Nat) {i1 i2 : Nat} {m n : Nat} {total : Int} {f : Nat → List Value}
    (k0 : mem.get c = some (.cells 105 [.map i1, .slc i2 21 0 m, .raw (.int .i64 total)])) (k1 : mem.get i1 = some (.abs (MapP Pt.v Coin.v S.coins))) (k2 : mem.get i2 = some (.vec 130 21 n f))
    (hids : (Nat.beq c i1 || Nat.beq c i2 || Nat.beq i1 i2) = false) (hm : m = S.steps.length) (ht : total = S.total) (hle : S.steps.length ≤ n) (hf : ∀ i, i < S.steps.length → f i = (S.steps.getD i default).cells) :
    Ent C ⟨slots, mem, nx⟩ ⟨slots, (c, .abs (usetP S)) :: mem.dels [c, i1, i2], nx⟩ := by
  subst hm ht
  exact Ent.shut3 (S := ⟨slots, mem, nx⟩) (M := S.mem) (inv := True) hids trivial rfl rfl rfl rfl k0 k1 k2 rfl ⟨rfl, rfl⟩ rfl ⟨rfl, rfl, hle, hf⟩
theorem USet.ends {C : Ctx} {T : TyTab} {rs : List ResultVar} {X X' : XV} {e : Exit} {slots : List (Option XV)} {mem : Mem} {nx : Nat} {S0 : USet} (S : USet) {i1 i2 : Nat} {m n : Nat} {total : Int} {f : Nat → List Value} (he : e = .normal ∨ e = .ret)
    (k0 : mem.get 0 = some (.cells 105 [.map i1, .slc i2 21 0 m, .raw (.int .i64 total)])) (k1 : mem.get i1 = some (.abs (MapP Pt.v Coin.v S.coins))) (k2 : mem.get i2 = some (.vec 130 21 n f))
    (hids : (Nat.beq 0 i1 || Nat.beq 0 i2 || Nat.beq i1 i2) = false)
    (hr : resX T ⟨slots, (0, .abs (usetP S)) :: mem.dels [0, i1, i2], nx⟩ rs = some X') (hX : X' = X) (hS : S = S0) (hm : m = S.steps.length) (ht : total = S.total) (hle : S.steps.length ≤ n) (hf : ∀ i, i < S.steps.length → f i = (S.steps.getD i default).cells) :
    Sx.Ends C T rs 1 1 ⟨X, [(0, .abs (usetP S0))], none⟩ e ⟨slots, mem, nx⟩ := by
  subst hX hS
  refine ⟨he, _, USet.shuts S 0 k0 k1 k2 hids hm ht hle hf, hr, fun i ch h => ?_, fun i ch h => by cases h⟩
  simp only [Mem.get, nbeq] at h
  by_cases hk : 0 = i
  · subst hk
    simp only [decide_true, cond_true, Option.some.injEq] at h
    exact ⟨by omega, by rw [← h]; rfl⟩
  · simp [hk] at h
abbrev Pt.cv (p : Pt) : CV := .agg (p.cells.map .raw)
abbrev Coin.cv (p : Coin) : CV := .agg (p.cells.map .raw)
def USet.put (S : USet) (p : Pt) (c : Coin) : USet := { S with coins := mput S.coins p c, total := IntKind.i64.wrap (S.total + c.amt.toInt) }
theorem coin_map : Tryz.prog.underlying 102 = some (.map 60 69) := Tryz.underlying102
set_option maxRecDepth 100000 in
theorem put_spec (S : USet) (p : Pt) (c : Coin) {M : Mem} {c0 d : Nat} (hM : M.get c0 = some (.abs (usetP S))) (hd : Nat.beq d c0 = false) : CallSpec Tryz.prog 53 [.one (.ptr c0 0 0 0), p.cv, c.cv] M d { v := .tup [], upd := [(c0, .abs (usetP (S.put p c)))], wr := [c0] } [c0] := by
  refine spec_obj Tryz.T_ok Tryz.func53 rfl [p.cv, c.cv] (.tup []) rfl rfl hM hd (fun C _ => ?_)
  refine USet.opens S 0 rfl ?_
  refine Tri.of Tryz.mixed Tryz.T_ok ?_
  (refine wBegin ?_; ((conv => arg 5; whnf); repeat (refine xS ?_; conv => arg 5; whnf)))
  (refine wP _ _ (update_op ptK coin_map rfl rfl p c rfl rfl rfl) ?_; ((conv => arg 5; whnf); repeat (refine xS ?_; conv => arg 5; whnf)))
  exact USet.ends (S.put p c) (.inl rfl) rfl rfl rfl rfl rfl rfl rfl rfl rfl (Nat.le_refl _) (fun _ _ => rfl)
def USet.take (S : USet) (p : Pt) (c : Coin) : USet := { S with coins := mdel S.coins p, total := IntKind.i64.wrap (S.total - c.amt.toInt) }
set_option maxRecDepth 100000 in
theorem take_spec (S : USet) (p : Pt) (c : Coin) {M : Mem} {c0 d : Nat} (hM : M.get c0 = some (.abs (usetP S))) (hd : Nat.beq d c0 = false) : CallSpec Tryz.prog 55 [.one (.ptr c0 0 0 0), p.cv, c.cv] M d { v := .tup [], upd := [(c0, .abs (usetP (S.take p c)))], wr := [c0] } [c0] := by
  refine spec_obj Tryz.T_ok Tryz.func55 rfl [p.cv, c.cv] (.tup []) rfl rfl hM hd (fun C _ => ?_)
  refine USet.opens S 0 rfl ?_
  refine Tri.of Tryz.mixed Tryz.T_ok ?_
  (refine wBegin ?_; ((conv => arg 5; whnf); repeat (refine xS ?_; conv => arg 5; whnf)))
  (refine wP _ _ (delete_op ptK coin_map rfl rfl p rfl rfl) ?_; ((conv => arg 5; whnf); repeat (refine xS ?_; conv => arg 5; whnf)))
  exact USet.ends (S.take p c) (.inl rfl) rfl rfl rfl rfl rfl rfl rfl rfl rfl (Nat.le_refl _) (fun _ _ => rfl)
theorem coin_zero : ∀ w : World, (zeroValue 69).run Tryz.prog w = .ok (Coin.v coin0) w := fun w => by kernel_rfl
def USet.get (S : USet) (p : Pt) : Coin := (mget S.coins p).getD coin0
def USet.has (S : USet) (p : Pt) : Bool := (mget S.coins p).isSome
set_option maxRecDepth 100000 in
theorem get_spec (S : USet) (p : Pt) {M : Mem} {c0 d : Nat} (hM : M.get c0 = some (.abs (usetP S))) (hd : Nat.beq d c0 = false) : CallSpec Tryz.prog 16 [.one (.ptr c0 0 0 0), p.cv] M d { v := .tup [(S.get p).cv, .one (.raw (.bool (S.has p)))], upd := [(c0, .abs (usetP S))], wr := [c0] } [c0] := by
  refine spec_obj Tryz.T_ok Tryz.func16 rfl [p.cv] (.tup [(S.get p).cv, .one (.raw (.bool (S.has p)))]) rfl rfl hM hd (fun C _ => ?_)
  refine USet.opens S 0 rfl ?_
  refine Tri.of Tryz.mixed Tryz.T_ok ?_
  (refine wBegin ?_; ((conv => arg 5; whnf); repeat (refine xS ?_; conv => arg 5; whnf)))
  (refine wP _ _ (lookup_op (ok := true) ptK coin_map (z0 := coin0) coin_zero rfl rfl p rfl rfl) ?_; ((conv => arg 5; whnf); repeat (refine xS ?_; conv => arg 5; whnf)))
  exact USet.ends S (.inr rfl) rfl rfl rfl rfl rfl rfl rfl rfl rfl (Nat.le_refl _) (fun _ _ => rfl)
set_option maxRecDepth 100000 in
theorem len_spec (S : USet) {M : Mem} {c0 d : Nat} (hM : M.get c0 = some (.abs (usetP S))) (hd : Nat.beq d c0 = false) : CallSpec Tryz.prog 17 [.one (.ptr c0 0 0 0)] M d { v := XV.int .i64 S.coins.length, upd := [(c0, .abs (usetP S))], wr := [c0] } [c0] := by
  refine spec_obj Tryz.T_ok Tryz.func17 rfl [] (XV.int .i64 S.coins.length) rfl rfl hM hd (fun C _ => ?_)
  refine USet.opens S 0 rfl ?_
  refine Tri.of Tryz.mixed Tryz.T_ok ?_
  (refine wBegin ?_; ((conv => arg 5; whnf); repeat (refine xS ?_; conv => arg 5; whnf)))
  (refine wP _ _ (mapLen_op coin_map rfl rfl rfl) ?_; ((conv => arg 5; whnf); repeat (refine xS ?_; conv => arg 5; whnf)))
  exact USet.ends S (.inr rfl) rfl rfl rfl rfl rfl rfl rfl rfl rfl (Nat.le_refl _) (fun _ _ => rfl)
set_option maxRecDepth 100000 in
theorem total_spec (S : USet) {M : Mem} {c0 d : Nat} (hM : M.get c0 = some (.abs (usetP S))) (hd : Nat.beq d c0 = false) : CallSpec Tryz.prog 13 [.one (.ptr c0 0 0 0)] M d { v := XV.int .i64 S.total, upd := [(c0, .abs (usetP S))], wr := [c0] } [c0] := by
  refine spec_obj Tryz.T_ok Tryz.func13 rfl [] (XV.int .i64 S.total) rfl rfl hM hd (fun C _ => ?_)
  refine USet.opens S 0 rfl ?_
  refine Tri.of Tryz.mixed Tryz.T_ok ?_
  (refine wBegin ?_; ((conv => arg 5; whnf); repeat (refine xS ?_; conv => arg 5; whnf)))
  exact USet.ends S (.inr rfl) rfl rfl rfl rfl rfl rfl rfl rfl rfl (Nat.le_refl _) (fun _ _ => rfl)
def USet.empty : USet := ⟨[], [], 0⟩
theorem USet.ends_new {C : Ctx} {T : TyTab} {rs : List ResultVar} {X : XV} {e : Exit} {slots : List (Option XV)} {mem : Mem} {nx n0 : Nat} (l : List (Pt × Coin)) (total : Int) (i0 i1 : Nat) (he : e = .normal ∨ e = .ret) (hids : (Nat.beq i0 i1 || Nat.beq i0 nx || Nat.beq i1 nx) = false) (hn : n0 ≤ i0)
    (k0 : mem.get i0 = some (.cells 105 [.map i1, .raw (.slice none 0 0), .raw (.int .i64 total)])) (k1 : mem.get i1 = some (.abs (MapP Pt.v Coin.v l)))
    (hr : resX T ((St.nilc ⟨slots, mem, nx⟩ i0 105 [.map i1, .raw (.slice none 0 0), .raw (.int .i64 total)] 1 130 21).shut i0 [i0, i1, nx] (USet.mem ⟨l, [], total⟩) True) rs = some X) :
    Sx.Ends C T rs 0 n0 ⟨X, [], some (i0, .abs (usetP ⟨l, [], total⟩))⟩ e ⟨slots, mem, nx⟩ := by
  have hids' := hids
  simp only [Bool.or_eq_false_iff] at hids'
  obtain ⟨⟨h1, h2⟩, h3⟩ := hids'
  have h0 : ∀ a : Nat, Nat.beq a a = true := fun a => by rw [nbeq]; simp
  refine ⟨he, _, (Ent.nilc (S := ⟨slots, mem, nx⟩) k0 rfl 130 21).trans (Ent.shut3 (M := USet.mem ⟨l, [], total⟩) (b0 := .cells 105 [.map i1, .slc nx 21 0 0, .raw (.int .i64 total)]) (b1 := .abs (MapP Pt.v Coin.v l)) (b2 := .vec 130 21 0 fun _ => []) hids trivial rfl rfl rfl rfl ?_ ?_ ?_ rfl ⟨rfl, rfl⟩ rfl ⟨rfl, rfl, Nat.le_refl _, fun i hi => by simp at hi⟩), hr, fun i ch h => by simp [Mem.get] at h, fun i ch h => ?_⟩
  · simp [St.nilc, Mem.get]
  · have h3' : nx ≠ i1 := fun e => by rw [e, h0] at h3; cases h3
    have h1' : i1 ≠ i0 := fun e => by rw [e, h0] at h1; cases h1
    have : Nat.beq nx i1 = false := by rw [nbeq]; simpa using h3'
    simp only [St.nilc, Mem.get, h1, this, cond_false, Mem.get_del, if_neg h1', k1]
  · simp only [St.nilc, Mem.get, h2, h0, cond_false, cond_true]
  · cases h
    exact ⟨hn, by simp only [St.shut, Mem.get, h0, cond_true]; rfl⟩
theorem new_spec {M : Mem} {d : Nat} : CallSpec Tryz.prog 28 [] M d { v := XV.sv (.ptr d 0 0 0), upd := [(d, .abs (usetP USet.empty))] } [] := by
  refine spec_new Tryz.T_ok Tryz.func28 rfl [] rfl 3 (fun C _ => ?_)
  refine Tri.of Tryz.mixed Tryz.T_ok ?_
  (refine wBegin ?_; ((conv => arg 5; whnf); repeat (refine xS ?_; conv => arg 5; whnf)))
  (refine wP _ _ (makeMap_op Pt.v Coin.v rfl) ?_; ((conv => arg 5; whnf); repeat (refine xS ?_; conv => arg 5; whnf)))
  exact USet.ends_new [] 0 3 1 (.inr rfl) rfl (by decide) rfl rfl rfl
theorem snoc_steps (l : List Stp) (s : Stp) (i : Nat) (hi : i < l.length + 1) : snocF (fun i => (l.getD i default).cells) l.length s.cells i = ((l ++ [s]).getD i default).cells := by
  have e : Nat.blt i l.length = decide (i < l.length) := by
    by_cases h : i < l.length
    · rw [decide_eq_true h]; simpa using h
    · rw [decide_eq_false h]
      cases hb : Nat.blt i l.length with
      | false => rfl
      | true => exact absurd (by simpa using hb) h
  simp only [snocF, e]
  by_cases h : i < l.length
  · simp [h, List.getD_eq_getElem?_getD, List.getElem?_append_left h]
  · have h' : i = l.length := by omega
    simp [h', List.getD_eq_getElem?_getD]
def USet.okB (S : USet) (p : Pt) (c : Coin) : Bool := !(decide (p.no.toInt < 0)) && !(decide (p.no.toInt > 255)) && !(decide (c.amt.toInt < 1)) && !(S.has p) && bothB S.total c.amt.toInt (IntKind.i64.wrap (S.total + c.amt.toInt))
def USet.add1 (S : USet) (p : Pt) (c : Coin) : USet := { S.put p c with steps := S.steps ++ [⟨p, c, true⟩] }
def USet.add (S : USet) (p : Pt) (c : Coin) : USet := if S.okB p c = true then S.add1 p c else S
set_option maxRecDepth 100000 in
theorem uadd_spec (S : USet) (p : Pt) (c : Coin) (hlen : S.steps.length < 1000000) {M : Mem} {c0 d : Nat} (hM : M.get c0 = some (.abs (usetP S))) (hd : Nat.beq d c0 = false) : CallSpec Tryz.prog 29 [.one (.ptr c0 0 0 0), p.cv, c.cv] M d { v := XV.bool (S.okB p c), upd := [(c0, .abs (usetP (S.add p c)))], wr := [c0] } [c0] := by
  refine spec_obj Tryz.T_ok Tryz.func29 rfl [p.cv, c.cv] (XV.bool (S.okB p c)) rfl rfl hM hd (fun C _ => ?_)
  refine USet.opens S 0 rfl ?_
  (refine Tri.cut 5 Tryz.mixed Tryz.T_ok ?_; ((conv => arg 5; whnf); repeat (refine xS ?_; conv => arg 5; whnf)))
  refine wC (fun h1 => ?_) (fun h1 => ?_)
  · (refine wGo ?_; ((conv => arg 5; whnf); repeat (refine xS ?_; conv => arg 5; whnf)))
    refine wD <| cutR (USet.ends S (.inr rfl) rfl rfl rfl rfl rfl ?_ ?_ rfl rfl (Nat.le_refl _) (fun _ _ => rfl))
    · simp [USet.okB, h1]
    · simp [USet.add, USet.okB, h1]
  (refine wGo ?_; ((conv => arg 5; whnf); repeat (refine xS ?_; conv => arg 5; whnf)))
  refine wC (fun h2 => ?_) (fun h2 => ?_)
  · (refine wGo ?_; ((conv => arg 5; whnf); repeat (refine xS ?_; conv => arg 5; whnf)))
    refine wD <| cutR (USet.ends S (.inr rfl) rfl rfl rfl rfl rfl ?_ ?_ rfl rfl (Nat.le_refl _) (fun _ _ => rfl))
    · simp [USet.okB, h2]
    · simp [USet.add, USet.okB, h2]
  (refine wGo ?_; ((conv => arg 5; whnf); repeat (refine xS ?_; conv => arg 5; whnf)))
  refine wC (fun h3 => ?_) (fun h3 => ?_)
  · (refine wGo ?_; ((conv => arg 5; whnf); repeat (refine xS ?_; conv => arg 5; whnf)))
    refine wD <| cutR (USet.ends S (.inr rfl) rfl rfl rfl rfl rfl ?_ ?_ rfl rfl (Nat.le_refl _) (fun _ _ => rfl))
    · simp [USet.okB, h3]
    · simp [USet.add, USet.okB, h3]
  (refine wGo ?_; ((conv => arg 5; whnf); repeat (refine xS ?_; conv => arg 5; whnf)))
  (refine wP _ _ (lookup_op (ok := true) ptK coin_map (z0 := coin0) coin_zero rfl rfl p rfl rfl) ?_; ((conv => arg 5; whnf); repeat (refine xS ?_; conv => arg 5; whnf)))
  (apply wP; exact (call_op rfl (entersB_of Tryz.func52 (by kernel_rfl)) rfl (add_spec _ _ _ _)); ((conv => arg 5; whnf); repeat (refine xS ?_; conv => arg 5; whnf)))
  refine wC (fun h4 => ?_) (fun h4 => ?_)
  · (refine wGo ?_; ((conv => arg 5; whnf); repeat (refine xS ?_; conv => arg 5; whnf)))
    refine wD <| cutR (USet.ends S (.inr rfl) rfl rfl rfl rfl rfl ?_ ?_ rfl rfl (Nat.le_refl _) (fun _ _ => rfl))
    · simp [USet.okB, USet.has, h4]
    · simp [USet.add, USet.okB, USet.has, h4]
  (refine wGo ?_; ((conv => arg 5; whnf); repeat (refine xS ?_; conv => arg 5; whnf)))
  refine wC (fun h5 => ?_) (fun h5 => ?_)
  · (refine wGo ?_; ((conv => arg 5; whnf); repeat (refine xS ?_; conv => arg 5; whnf)))
    simp only [Bool.not_eq_true'] at h5
    refine wD <| cutR (USet.ends S (.inr rfl) rfl rfl rfl rfl rfl ?_ ?_ rfl rfl (Nat.le_refl _) (fun _ _ => rfl))
    · simp [USet.okB, h5]
    · simp [USet.add, USet.okB, h5]
  (refine wGo ?_; ((conv => arg 5; whnf); repeat (refine xS ?_; conv => arg 5; whnf)))
  simp only [Bool.not_eq_false'] at h5
  have hok : S.okB p c = true := by simp [USet.okB, USet.has, h1, h2, h3, h4, h5]
  refine wD <| cutG (Tri.ent (USet.shuts S 0 rfl rfl rfl rfl rfl rfl (Nat.le_refl _) (fun _ _ => rfl)) ?_)
  (refine Tri.cut 1 Tryz.mixed Tryz.T_ok ?_; ((conv => arg 5; whnf); repeat (refine xS ?_; conv => arg 5; whnf)))
  (apply wP; exact (call_op rfl (entersB_of Tryz.func53 (by kernel_rfl)) rfl (put_spec S p c rfl rfl)); ((conv => arg 5; whnf); repeat (refine xS ?_; conv => arg 5; whnf)))
  have hA : (S.put p c).steps.length + 1 ≤ maxLen := by
    show S.steps.length + 1 ≤ maxLen
    simp only [maxLen]; omega
  have hB : ((S.put p c).steps.length + 1) * 56 ≤ 140737488355328 := by
    show (S.steps.length + 1) * 56 ≤ 140737488355328
    omega
  refine wD <| cutG (USet.opens (S.put p c) 0 rfl ?_)
  refine Tri.of Tryz.mixed Tryz.T_ok ?_
  (refine wBegin ?_; ((conv => arg 5; whnf); repeat (refine xS ?_; conv => arg 5; whnf)))
  (refine wP _ _ (append1_op Tryz.T_ok rfl rfl rfl rfl (Stp.cells ⟨p, c, true⟩) rfl rfl rfl (Nat.le_refl _) rfl rfl rfl rfl rfl hA hB) ?_; ((conv => arg 5; whnf); repeat (refine xS ?_; conv => arg 5; whnf)))
  refine USet.ends (S.add1 p c) (.inr rfl) rfl rfl rfl rfl rfl ?_ ?_ ?_ rfl ?_ ?_
  · rw [hok]
  · rw [USet.add, if_pos hok]
  · simp [USet.add1, USet.put]
  · simp [USet.add1, USet.put]
  · intro i hi
    exact snoc_steps S.steps ⟨p, c, true⟩ i (by simpa [USet.add1] using hi)
def USet.spend1 (S : USet) (p : Pt) : USet := { S.take p (S.get p) with steps := S.steps ++ [⟨p, S.get p, false⟩] }
def USet.spend (S : USet) (p : Pt) : USet := if S.has p = true then S.spend1 p else S
set_option maxRecDepth 100000 in
theorem spend_spec (S : USet) (p : Pt) (hlen : S.steps.length < 1000000) {M : Mem} {c0 d : Nat} (hM : M.get c0 = some (.abs (usetP S))) (hd : Nat.beq d c0 = false) : CallSpec Tryz.prog 32 [.one (.ptr c0 0 0 0), p.cv] M d { v := .tup [(S.get p).cv, .one (.raw (.bool (S.has p)))], upd := [(c0, .abs (usetP (S.spend p)))], wr := [c0] } [c0] := by
  refine spec_obj Tryz.T_ok Tryz.func32 rfl [p.cv] (.tup [(S.get p).cv, .one (.raw (.bool (S.has p)))]) rfl rfl hM hd (fun C _ => ?_)
  (refine Tri.cut 2 Tryz.mixed Tryz.T_ok ?_; ((conv => arg 5; whnf); repeat (refine xS ?_; conv => arg 5; whnf)))
  (apply wP; exact (call_op rfl (entersB_of Tryz.func16 (by kernel_rfl)) rfl (get_spec S p rfl rfl)); ((conv => arg 5; whnf); repeat (refine xS ?_; conv => arg 5; whnf)))
  refine wD <| cutG (Tri.seq ?_)
  (refine Tri.cut 1 Tryz.mixed Tryz.T_ok ?_; ((conv => arg 5; whnf); repeat (refine xS ?_; conv => arg 5; whnf)))
  refine wD <| cutG (Tri.cond (b := S.has p) rfl (fun h1 => ?_) (fun h1 => ?_))
  · (refine Tri.cut 1 Tryz.mixed Tryz.T_ok ?_; ((conv => arg 5; whnf); repeat (refine xS ?_; conv => arg 5; whnf)))
    (apply wP; exact (call_op rfl (entersB_of Tryz.func55 (by kernel_rfl)) rfl (take_spec S p (S.get p) rfl rfl)); ((conv => arg 5; whnf); repeat (refine xS ?_; conv => arg 5; whnf)))
    have hA : (S.take p (S.get p)).steps.length + 1 ≤ maxLen := by
      show S.steps.length + 1 ≤ maxLen
      simp only [maxLen]; omega
    have hB : ((S.take p (S.get p)).steps.length + 1) * 56 ≤ 140737488355328 := by
      show (S.steps.length + 1) * 56 ≤ 140737488355328
      omega
    refine wD <| cutG (USet.opens (S.take p (S.get p)) 0 rfl ?_)
    refine Tri.of Tryz.mixed Tryz.T_ok ?_
    (refine wBegin ?_; ((conv => arg 5; whnf); repeat (refine xS ?_; conv => arg 5; whnf)))
    (refine wP _ _ (append1_op Tryz.T_ok rfl rfl rfl rfl (Stp.cells ⟨p, S.get p, false⟩) rfl rfl rfl (Nat.le_refl _) rfl rfl rfl rfl rfl hA hB) ?_; ((conv => arg 5; whnf); repeat (refine xS ?_; conv => arg 5; whnf)))
    refine wD <| cutG (Tri.of Tryz.mixed Tryz.T_ok ?_)
    (refine wBegin ?_; ((conv => arg 5; whnf); repeat (refine xS ?_; conv => arg 5; whnf)))
    refine USet.ends (S.spend1 p) (.inr rfl) rfl rfl rfl rfl rfl ?_ ?_ ?_ rfl ?_ ?_
    · rw [h1]; rfl
    · rw [USet.spend, if_pos h1]
    · simp [USet.spend1, USet.take]
    · simp [USet.spend1, USet.take]
    · intro i hi
      exact snoc_steps S.steps ⟨p, S.get p, false⟩ i (by simpa [USet.spend1] using hi)
  · refine Tri.skip (cutG (USet.opens S 0 rfl (Tri.of Tryz.mixed Tryz.T_ok ?_)))
    (refine wBegin ?_; ((conv => arg 5; whnf); repeat (refine xS ?_; conv => arg 5; whnf)))
    refine USet.ends S (.inr rfl) rfl rfl rfl rfl rfl ?_ ?_ rfl rfl (Nat.le_refl _) (fun _ _ => rfl)
    · rw [h1]; rfl
    · simp [USet.spend, h1]
end Go.Proofs.YtmoohekgheoliaaGreatDoor
namespace Go.Proofs.YtmoohekgheoliaaGreatDoor
set_option maxRecDepth 100000
open Go.Sx
abbrev H8.cv (h : H8) : CV := .agg (h.cells.map .raw)
def H8.l (h : H8) : List UInt8 := [h.b0, h.b1, h.b2, h.b3, h.b4, h.b5, h.b6, h.b7]
def ltL : List UInt8 → List UInt8 → Bool
  | x :: xs, y :: ys => if x = y then ltL xs ys else decide (x < y)
  | _, _ => false
def lessSt (a b : H8) (i : Nat) : St := ⟨[none, none, some (XV.sv (.ptr 0 0 0 0)), some (XV.sv (.ptr 1 0 0 0)), some (XV.bool false), some (XV.int .i64 i)] ++ List.replicate 18 none, [(0, .cells 39 (a.cells.map .raw)), (1, .cells 39 (b.cells.map .raw))], 2⟩
theorem u8_ne {x y : UInt8} : ((x.toNat : Int) != (y.toNat : Int)) = !decide (x = y) := by
  by_cases h : x = y
  · subst h; simp
  · have : (x.toNat : Int) ≠ (y.toNat : Int) := fun e => h (UInt8.toNat_inj.1 (by omega))
    simp [h, this]
set_option maxHeartbeats 2000000 in
set_option maxRecDepth 100000 in
theorem refLess_spec (a b : H8) (M : Mem) (d : Nat) : CallSpec Tryz.prog 120 [a.cv, b.cv] M d { v := XV.bool (ltL a.l b.l) } [] := by
  refine spec_pureT Tryz.T_ok Tryz.func120 rfl [a.cv, b.cv] _ rfl rfl (fun C hC => ?_) M d
  have hC0 : ∀ i, i < C.n0 → ([0, 1] : List Nat)[i]? = some i := fun i hi => by rw [hC] at hi; omega
  have hC1 : C.n0 ≤ 2 := by rw [hC]; decide
  (refine Tri.cut 1 Tryz.mixed Tryz.T_ok ?_; ((conv => arg 5; whnf); repeat (refine xS ?_; conv => arg 5; whnf)))
  refine wD <| cutG <| Tri.seq ?_
  (refine Tri.cut 1 Tryz.mixed Tryz.T_ok ?_; ((conv => arg 5; whnf); repeat (refine xS ?_; conv => arg 5; whnf)))
  refine wD <| cutG <| Tri.block ?_
  refine Tri.loop (α := { i : Nat // i ≤ 8 ∧ ltL a.l b.l = ltL (a.l.drop i) (b.l.drop i) }) (fun i => lessSt a b i.1) (fun i => 8 - i.1) ⟨0, by decide, rfl⟩ ?_ ?_
  · exact Ent.ren [0, 1] (by decide) rfl hC0 hC1 rfl ⟨rfl, rfl, rfl, rfl, trivial⟩ ⟨⟨_, rfl, rfl, rfl⟩, ⟨_, rfl, rfl, rfl⟩, trivial⟩
  rintro ⟨i, hi, hlt⟩
  dsimp only
  have hcases : i = 8 ∨ i = 0 ∨ i = 1 ∨ i = 2 ∨ i = 3 ∨ i = 4 ∨ i = 5 ∨ i = 6 ∨ i = 7 := by omega
  rcases hcases with rfl | h
  · (refine Tri.cut 1 Tryz.mixed Tryz.T_ok ?_; ((conv => arg 5; whnf); repeat (refine xS ?_; conv => arg 5; whnf)))
    refine wD <| cutE <| loopX <| blockX <| cutG <| Tri.of Tryz.mixed Tryz.T_ok ?_
    (refine wBegin ?_; ((conv => arg 5; whnf); repeat (refine xS ?_; conv => arg 5; whnf)))
    refine Ends.plain (.inr rfl) rfl ?_
    rw [hlt]
    rfl
  rcases h with rfl | rfl | rfl | rfl | rfl | rfl | rfl | rfl
  all_goals
    (refine Tri.cut 1 Tryz.mixed Tryz.T_ok ?_; ((conv => arg 5; whnf); repeat (refine xS ?_; conv => arg 5; whnf)))
    refine wD <| cutG <| Tri.seq <| Tri.block <| Tri.of Tryz.mixed Tryz.T_ok ?_
    (refine wBegin ?_; ((conv => arg 5; whnf); repeat (refine xS ?_; conv => arg 5; whnf)))
    refine wC (fun h1 => ?_) (fun h1 => ?_)
    · (refine wGo ?_; ((conv => arg 5; whnf); repeat (refine xS ?_; conv => arg 5; whnf)))
      refine wD <| blockR <| cutR <| loopR <| blockR <| cutR <| Ends.plain (.inr rfl) rfl ?_
      rw [hlt]
      simp only [u8_ne, Bool.not_eq_true', decide_eq_false_iff_not] at h1
      simp [H8.l, ltL, h1, UInt8.lt_iff_toNat_lt]
    · (refine wGo ?_; ((conv => arg 5; whnf); repeat (refine xS ?_; conv => arg 5; whnf)))
      refine wD <| blockN <| cutG <| Tri.of Tryz.mixed Tryz.T_ok ?_
      (refine wBegin ?_; ((conv => arg 5; whnf); repeat (refine xS ?_; conv => arg 5; whnf)))
      simp only [u8_ne, Bool.not_eq_false', decide_eq_true_eq] at h1
      refine wD <| loopN ?_
      first |
        exact ⟨⟨1, by decide, by rw [hlt]; simp [H8.l, ltL, h1]⟩, by simp, Ent.ren [0, 1] (by decide) rfl hC0 hC1 rfl ⟨rfl, rfl, rfl, rfl, trivial⟩ ⟨⟨_, rfl, rfl, rfl⟩, ⟨_, rfl, rfl, rfl⟩, trivial⟩⟩ |
        exact ⟨⟨2, by decide, by rw [hlt]; simp [H8.l, ltL, h1]⟩, by simp, Ent.ren [0, 1] (by decide) rfl hC0 hC1 rfl ⟨rfl, rfl, rfl, rfl, trivial⟩ ⟨⟨_, rfl, rfl, rfl⟩, ⟨_, rfl, rfl, rfl⟩, trivial⟩⟩ |
        exact ⟨⟨3, by decide, by rw [hlt]; simp [H8.l, ltL, h1]⟩, by simp, Ent.ren [0, 1] (by decide) rfl hC0 hC1 rfl ⟨rfl, rfl, rfl, rfl, trivial⟩ ⟨⟨_, rfl, rfl, rfl⟩, ⟨_, rfl, rfl, rfl⟩, trivial⟩⟩ |
        exact ⟨⟨4, by decide, by rw [hlt]; simp [H8.l, ltL, h1]⟩, by simp, Ent.ren [0, 1] (by decide) rfl hC0 hC1 rfl ⟨rfl, rfl, rfl, rfl, trivial⟩ ⟨⟨_, rfl, rfl, rfl⟩, ⟨_, rfl, rfl, rfl⟩, trivial⟩⟩ |
        exact ⟨⟨5, by decide, by rw [hlt]; simp [H8.l, ltL, h1]⟩, by simp, Ent.ren [0, 1] (by decide) rfl hC0 hC1 rfl ⟨rfl, rfl, rfl, rfl, trivial⟩ ⟨⟨_, rfl, rfl, rfl⟩, ⟨_, rfl, rfl, rfl⟩, trivial⟩⟩ |
        exact ⟨⟨6, by decide, by rw [hlt]; simp [H8.l, ltL, h1]⟩, by simp, Ent.ren [0, 1] (by decide) rfl hC0 hC1 rfl ⟨rfl, rfl, rfl, rfl, trivial⟩ ⟨⟨_, rfl, rfl, rfl⟩, ⟨_, rfl, rfl, rfl⟩, trivial⟩⟩ |
        exact ⟨⟨7, by decide, by rw [hlt]; simp [H8.l, ltL, h1]⟩, by simp, Ent.ren [0, 1] (by decide) rfl hC0 hC1 rfl ⟨rfl, rfl, rfl, rfl, trivial⟩ ⟨⟨_, rfl, rfl, rfl⟩, ⟨_, rfl, rfl, rfl⟩, trivial⟩⟩ |
        exact ⟨⟨8, by decide, by rw [hlt]; simp [H8.l, ltL, h1]⟩, by simp, Ent.ren [0, 1] (by decide) rfl hC0 hC1 rfl ⟨rfl, rfl, rfl, rfl, trivial⟩ ⟨⟨_, rfl, rfl, rfl⟩, ⟨_, rfl, rfl, rfl⟩, trivial⟩⟩
end Go.Proofs.YtmoohekgheoliaaGreatDoor
namespace Go.Proofs.YtmoohekgheoliaaGreatDoor
set_option maxRecDepth 100000
open Go.Sx
theorem fitU (x : UInt8) : (Kd.int .u8).fits (u8 x) := ⟨_, rfl, u8_wf x⟩
theorem fitI (x : Int64) : (Kd.int .i64).fits (i64 x) := ⟨_, rfl, i64_wf x⟩
theorem fitB (b : Bool) : Kd.bool.fits (.bool b) := ⟨b, rfl⟩
def H8.v (h : H8) : Value := .agg h.cells.toArray
theorem H8.inj (a b : H8) (h : a.v = b.v) : a = b := by
  have h : a.cells = b.cells := by
    have := congrArg (fun v => v.cells.toList) h
    simpa [H8.v, Value.cells] using this
  obtain ⟨_, _, _, _, _, _, _, _⟩ := a
  obtain ⟨_, _, _, _, _, _, _, _⟩ := b
  simp only [H8.cells, List.cons.injEq] at h
  obtain ⟨h0, h1, h2, h3, h4, h5, h6, h7, _⟩ := h
  rw [u8_inj h0, u8_inj h1, u8_inj h2, u8_inj h3, u8_inj h4, u8_inj h5, u8_inj h6, u8_inj h7]
theorem bool_inj {a b : Bool} (h : Value.bool a = Value.bool b) : a = b := by cases h; rfl
theorem Coin.inj (a b : Coin) (h : a.v = b.v) : a = b := by
  have h : a.cells = b.cells := by
    have := congrArg (fun v => v.cells.toList) h
    simpa [Coin.v, Value.cells] using this
  obtain ⟨⟨_, _, _, _, _, _, _, _⟩, _, _, _⟩ := a
  obtain ⟨⟨_, _, _, _, _, _, _, _⟩, _, _, _⟩ := b
  simp only [Coin.cells, List.cons.injEq] at h
  obtain ⟨h0, h1, h2, h3, h4, h5, h6, h7, h8, h9, h10, _⟩ := h
  rw [u8_inj h0, u8_inj h1, u8_inj h2, u8_inj h3, u8_inj h4, u8_inj h5, u8_inj h6, u8_inj h7, i64_inj h8, i64_inj h9, bool_inj h10]
def hashKinds : List Kd := [.int .u8, .int .u8, .int .u8, .int .u8, .int .u8, .int .u8, .int .u8, .int .u8]
def coinKinds : List Kd := hashKinds ++ [.int .i64, .int .i64, .bool]
theorem hash_fits (h : H8) : Fits hashKinds h.cells :=
  ⟨_, _, rfl, fitU _, _, _, rfl, fitU _, _, _, rfl, fitU _, _, _, rfl, fitU _, _, _, rfl, fitU _, _, _, rfl, fitU _, _, _, rfl, fitU _, _, _, rfl, fitU _, rfl⟩
theorem coin_fits (h : Coin) : Fits coinKinds h.cells :=
  ⟨_, _, rfl, fitU _, _, _, rfl, fitU _, _, _, rfl, fitU _, _, _, rfl, fitU _, _, _, rfl, fitU _, _, _, rfl, fitU _, _, _, rfl, fitU _, _, _, rfl, fitU _, _, _, rfl, fitI _, _, _, rfl, fitI _, _, _, rfl, fitB _, rfl⟩
theorem hash_row : (39 : TypeId) < Tryz.prog.types.size := of_decide_eq_true (by kernel_rfl)
theorem hash_deep : Tryz.prog.keyTypeAt 3 39 = true := by kernel_rfl
theorem hash_deep8 : Tryz.prog.keyTypeAt 8 39 = true := by kernel_rfl
theorem hash_keyT : Tryz.prog.keyType 39 = true := by kernel_rfl
theorem hash_law : WideMaps.KeyLaw Tryz.prog 39 := deep_law_laid laid (m := 3) (by omega) hash_row hash_deep (by rw [Tryz.underlying39])
theorem types_many : 8 ≤ Tryz.prog.types.size + 1 := of_decide_eq_true (by kernel_rfl)
theorem hash_cells : hashKinds.length = Tryz.prog.cellsOf 39 := by kernel_rfl
theorem hash_key (h : H8) : ∃ l, keyOf Tryz.prog 39 h.v = some l := keyOf_fits Tryz.T_ok (f := 8) (ks := hashKinds) rfl hash_deep8 hash_keyT types_many (by rw [Tryz.underlying39]) (hash_fits h) hash_cells
theorem hash_noguard : Tryz.prog.eqGuardType Tryz.prog.depth 39 = false := by kernel_rfl
theorem hashE : EqK Tryz.prog 39 H8.v := EqK.of (m := 3) hash_law (by omega) hash_deep (by rw [Tryz.underlying39]) hash_key H8.inj hash_noguard (fun a => ⟨_, rfl⟩)
theorem pt_noguard : Tryz.prog.eqGuardType Tryz.prog.depth 60 = false := by kernel_rfl
theorem ptE : EqK Tryz.prog 60 Pt.v := EqK.of (m := 3) pt_law (by omega) pt_deep (by rw [Tryz.underlying60]) pt_key Pt.inj pt_noguard (fun a => ⟨_, rfl⟩)
theorem coin_row : (69 : TypeId) < Tryz.prog.types.size := of_decide_eq_true (by kernel_rfl)
theorem coin_deep : Tryz.prog.keyTypeAt 8 69 = true := by kernel_rfl
theorem coin_keyT : Tryz.prog.keyType 69 = true := by kernel_rfl
theorem coin_law : WideMaps.KeyLaw Tryz.prog 69 := deep_law_laid laid (m := 8) (by omega) coin_row coin_deep (by rw [Tryz.underlying69])
theorem coin_cells : coinKinds.length = Tryz.prog.cellsOf 69 := by kernel_rfl
theorem coin_key (h : Coin) : ∃ l, keyOf Tryz.prog 69 h.v = some l := keyOf_fits Tryz.T_ok (f := 8) (ks := coinKinds) rfl coin_deep coin_keyT types_many (by rw [Tryz.underlying69]) (coin_fits h) coin_cells
theorem coin_noguard : Tryz.prog.eqGuardType Tryz.prog.depth 69 = false := by kernel_rfl
theorem coinE : EqK Tryz.prog 69 Coin.v := EqK.of (m := 8) coin_law (by omega) coin_deep (by rw [Tryz.underlying69]) coin_key Coin.inj coin_noguard (fun a => ⟨_, rfl⟩)
def ltPt (a b : Pt) : Bool := ltL a.tx.l b.tx.l || (decide (a.tx = b.tx) && decide (a.no.toInt < b.no.toInt))
set_option maxRecDepth 100000 in
theorem lessPoint_spec (a b : Pt) (M : Mem) (d : Nat) : CallSpec Tryz.prog 94 [a.cv, b.cv] M d { v := XV.bool (ltPt a b) } [] := by
  refine spec_pureT Tryz.T_ok Tryz.func94 rfl [a.cv, b.cv] _ rfl rfl (fun C hC => ?_) M d
  refine Tri.of Tryz.mixed Tryz.T_ok ?_
  (refine wBegin ?_; ((conv => arg 5; whnf); repeat (refine xS ?_; conv => arg 5; whnf)))
  (apply wP; exact (call_op rfl (entersB_of Tryz.func120 (by kernel_rfl)) rfl (refLess_spec a.tx b.tx _ _)); ((conv => arg 5; whnf); repeat (refine xS ?_; conv => arg 5; whnf)))
  refine wC (fun h1 => ?_) (fun h1 => ?_)
  · (refine wGo ?_; ((conv => arg 5; whnf); repeat (refine xS ?_; conv => arg 5; whnf)))
    refine Ends.plain (.inr rfl) rfl ?_
    simp [ltPt, h1]
  (refine wGo ?_; ((conv => arg 5; whnf); repeat (refine xS ?_; conv => arg 5; whnf)))
  (refine wP _ _ (eq_op hashE rfl a.tx b.tx rfl rfl) ?_; ((conv => arg 5; whnf); repeat (refine xS ?_; conv => arg 5; whnf)))
  refine wC (fun h2 => ?_) (fun h2 => ?_)
  · (refine wGo ?_; ((conv => arg 5; whnf); repeat (refine xS ?_; conv => arg 5; whnf)))
    refine Ends.plain (.inr rfl) rfl ?_
    simp only [decide_eq_true_eq] at h2
    unfold ltPt
    rw [h1]
    simp [h2]
  · (refine wGo ?_; ((conv => arg 5; whnf); repeat (refine xS ?_; conv => arg 5; whnf)))
    refine Ends.plain (.inr rfl) rfl ?_
    simp only [decide_eq_false_iff_not] at h2
    unfold ltPt
    rw [h1]
    simp [h2]
end Go.Proofs.YtmoohekgheoliaaGreatDoor
namespace Go.Proofs.YtmoohekgheoliaaGreatDoor
set_option maxRecDepth 100000
open Go.Sx
def rowsL (bss : List (List UInt8)) : List (Nat × (Nat → List Value)) := bss.map fun b => (b.length, rowB b)
theorem lend_parts {M : Mem} {rd : List Nat} {c e : Nat} {cs : List SV} (bss : List (List UInt8)) (hm : M.get c = some (.cells e cs)) (hrd : nmem c rd = true) (hn : cs.length = bss.length) (ha : AllRows M rd 1 cs (rowsL bss)) : Lends M rd (.one (.slc c 1 0 bss.length)) (partsA bss) := by
  refine lend_rows (rowsL bss) hm hrd hn ha (fun i x hx => ?_)
  rw [rowsL, List.getElem?_map] at hx
  cases hb : bss[i]? with
  | none => rw [hb] at hx; cases hx
  | some b =>
    rw [hb] at hx
    simp only [Option.map_some, Option.some.injEq] at hx
    subst hx
    simp [List.getD_eq_getElem?_getD, hb]
theorem lend_vecN {M : Mem} {rd : List Nat} {c e sz n lo k k' : Nat} {f g : Nat → List Value} (hkk : k' = k) (hm : M.get c = some (.vec e sz n f)) (hrd : nmem c rd = true) (hk : lo + k ≤ n) (hg : ∀ i, i < k → g i = f (lo + i)) : Lends M rd (.one (.slc c sz lo k')) (.row sz k g) := by
  subst hkk; exact lend_vec hm hrd hk hg
theorem H8.l_len (h : H8) : h.l.length = 8 := rfl
theorem short1 (p : UInt8) (a : List UInt8) (h : a.length ≤ 900000000) : Short (encAll p [a]) := by
  show (encN p [a] 1).length ≤ _
  rw [encN_length]
  show [p].length + 4 + a.length ≤ _
  simp; omega
theorem short2 (p : UInt8) (a b : List UInt8) (h : a.length + b.length ≤ 900000000) : Short (encAll p [a, b]) := by
  show (encN p [a, b] 2).length ≤ _
  rw [encN_length, encN_length]
  show [p].length + 4 + a.length + 4 + b.length ≤ _
  simp; omega
def leafH (h : H8) : H8 := dig 108 [h.l]
def joinH (a b : H8) : H8 := dig 109 [a.l, b.l]
def markH (h : H8) : H8 := dig 112 [h.l]
abbrev H8.x (h : H8) : CV := .agg (h.cells.map .raw)
def hashX (h : H8) : XV := .cv h.x
theorem ptwo_can (p : UInt8) (a b : H8) : Reads Tryz.prog 152 [.plain (.one (.raw (u8 p))), .plain a.x, .plain b.x] [stepsP] (hashX (dig p [a.l, b.l])) := by
  refine Reads.of Tryz.T_ok Tryz.func152 rfl _ _ _ rfl rfl (fun C hC => ?_)
  (replace hC : C.n0 = 4 := hC; change Tri _ _ _ ⟨_, _, 4⟩ _)
  refine Tri.of Tryz.mixed Tryz.T_ok ?_
  (refine wBegin ?_; ((conv => arg 5; whnf); repeat (refine xS ?_; conv => arg 5; whnf)))
  (refine wP _ _ (cellsNew_op Tryz.T_ok rfl rfl rfl) ?_; ((conv => arg 5; whnf); repeat (refine xS ?_; conv => arg 5; whnf)))
  (apply wP; exact (call_op rfl (entersB_of Tryz.func96 (by kernel_rfl)) rfl ((of_can p [a.l, b.l] (short2 _ _ _ (by simp [H8.l_len]))).at [10, 4, 5, 3] ⟨lend_plain rfl, lend_parts [a.l, b.l] rfl rfl rfl ⟨lend_sla rfl rfl (fun _ _ => rfl) rfl, lend_sla rfl rfl (fun _ _ => rfl) rfl, trivial⟩, trivial⟩ ⟨lend_ext (c := 3) rfl rfl, trivial⟩)); ((conv => arg 5; whnf); repeat (refine xS ?_; conv => arg 5; whnf)))
  exact wD (Ends.plain (.inr rfl) rfl rfl)
theorem rtwo_can (p : UInt8) (a b : H8) : Reads Tryz.prog 119 [.plain (.one (.raw (u8 p))), .plain a.x, .plain b.x] [] (hashX (dig p [a.l, b.l])) := by
  refine Reads.of Tryz.T_ok Tryz.func119 rfl _ _ _ rfl rfl (fun C hC => ?_)
  (replace hC : C.n0 = 3 := hC; change Tri _ _ _ ⟨_, _, 3⟩ _)
  refine Tri.of Tryz.mixed Tryz.T_ok ?_
  (refine wBegin ?_; ((conv => arg 5; whnf); repeat (refine xS ?_; conv => arg 5; whnf)))
  (refine wP _ _ (cellsNew_op Tryz.T_ok rfl rfl rfl) ?_; ((conv => arg 5; whnf); repeat (refine xS ?_; conv => arg 5; whnf)))
  (apply wP; exact (call_op rfl (entersB_of Tryz.func35 (by kernel_rfl)) rfl ((digest_can p [a.l, b.l] (short2 _ _ _ (by simp [H8.l_len]))).at [9, 3, 4] ⟨lend_plain rfl, lend_parts [a.l, b.l] rfl rfl rfl ⟨lend_sla rfl rfl (fun _ _ => rfl) rfl, lend_sla rfl rfl (fun _ _ => rfl) rfl, trivial⟩, trivial⟩ trivial)); ((conv => arg 5; whnf); repeat (refine xS ?_; conv => arg 5; whnf)))
  exact wD (Ends.plain (.inr rfl) rfl rfl)
theorem leaf_can (a : H8) : Reads Tryz.prog 133 [.plain a.x] [stepsP] (hashX (leafH a)) := by
  refine Reads.of Tryz.T_ok Tryz.func133 rfl _ _ _ rfl rfl (fun C hC => ?_)
  (replace hC : C.n0 = 2 := hC; change Tri _ _ _ ⟨_, _, 2⟩ _)
  refine Tri.of Tryz.mixed Tryz.T_ok ?_
  (refine wBegin ?_; ((conv => arg 5; whnf); repeat (refine xS ?_; conv => arg 5; whnf)))
  (refine wP _ _ (cellsNew_op Tryz.T_ok rfl rfl rfl) ?_; ((conv => arg 5; whnf); repeat (refine xS ?_; conv => arg 5; whnf)))
  (apply wP; exact (call_op rfl (entersB_of Tryz.func96 (by kernel_rfl)) rfl ((of_can 108 [a.l] (short1 _ _ (by simp [H8.l_len]))).at [5, 2, 1] ⟨lend_plain rfl, lend_parts [a.l] rfl rfl rfl ⟨lend_sla rfl rfl (fun _ _ => rfl) rfl, trivial⟩, trivial⟩ ⟨lend_ext (c := 1) rfl rfl, trivial⟩)); ((conv => arg 5; whnf); repeat (refine xS ?_; conv => arg 5; whnf)))
  exact wD (Ends.plain (.inr rfl) rfl rfl)
theorem mark_can (a : H8) : Reads Tryz.prog 136 [.plain a.x] [stepsP] (hashX (markH a)) := by
  refine Reads.of Tryz.T_ok Tryz.func136 rfl _ _ _ rfl rfl (fun C hC => ?_)
  (replace hC : C.n0 = 2 := hC; change Tri _ _ _ ⟨_, _, 2⟩ _)
  refine Tri.of Tryz.mixed Tryz.T_ok ?_
  (refine wBegin ?_; ((conv => arg 5; whnf); repeat (refine xS ?_; conv => arg 5; whnf)))
  (refine wP _ _ (cellsNew_op Tryz.T_ok rfl rfl rfl) ?_; ((conv => arg 5; whnf); repeat (refine xS ?_; conv => arg 5; whnf)))
  (apply wP; exact (call_op rfl (entersB_of Tryz.func96 (by kernel_rfl)) rfl ((of_can 112 [a.l] (short1 _ _ (by simp [H8.l_len]))).at [5, 2, 1] ⟨lend_plain rfl, lend_parts [a.l] rfl rfl rfl ⟨lend_sla rfl rfl (fun _ _ => rfl) rfl, trivial⟩, trivial⟩ ⟨lend_ext (c := 1) rfl rfl, trivial⟩)); ((conv => arg 5; whnf); repeat (refine xS ?_; conv => arg 5; whnf)))
  exact wD (Ends.plain (.inr rfl) rfl rfl)
theorem rmark_can (a : H8) : Reads Tryz.prog 92 [.plain a.x] [] (hashX (markH a)) := by
  refine Reads.of Tryz.T_ok Tryz.func92 rfl _ _ _ rfl rfl (fun C hC => ?_)
  (replace hC : C.n0 = 1 := hC; change Tri _ _ _ ⟨_, _, 1⟩ _)
  refine Tri.of Tryz.mixed Tryz.T_ok ?_
  (refine wBegin ?_; ((conv => arg 5; whnf); repeat (refine xS ?_; conv => arg 5; whnf)))
  (refine wP _ _ (cellsNew_op Tryz.T_ok rfl rfl rfl) ?_; ((conv => arg 5; whnf); repeat (refine xS ?_; conv => arg 5; whnf)))
  (apply wP; exact (call_op rfl (entersB_of Tryz.func35 (by kernel_rfl)) rfl ((digest_can 112 [a.l] (short1 _ _ (by simp [H8.l_len]))).at [4, 1] ⟨lend_plain rfl, lend_parts [a.l] rfl rfl rfl ⟨lend_sla rfl rfl (fun _ _ => rfl) rfl, trivial⟩, trivial⟩ trivial)); ((conv => arg 5; whnf); repeat (refine xS ?_; conv => arg 5; whnf)))
  exact wD (Ends.plain (.inr rfl) rfl rfl)
theorem join_can (a b : H8) : Reads Tryz.prog 134 [.plain a.x, .plain b.x] [stepsP] (hashX (joinH a b)) := by
  refine Reads.of Tryz.T_ok Tryz.func134 rfl _ _ _ rfl rfl (fun C hC => ?_)
  (replace hC : C.n0 = 3 := hC; change Tri _ _ _ ⟨_, _, 3⟩ _)
  refine Tri.of Tryz.mixed Tryz.T_ok ?_
  (refine wBegin ?_; ((conv => arg 5; whnf); repeat (refine xS ?_; conv => arg 5; whnf)))
  (apply wP; exact (call_op rfl (entersB_of Tryz.func152 (by kernel_rfl)) rfl ((ptwo_can 109 a b).at [2] ⟨lend_plain rfl, lend_plain rfl, lend_plain rfl, trivial⟩ ⟨lend_ext (c := 2) rfl rfl, trivial⟩)); ((conv => arg 5; whnf); repeat (refine xS ?_; conv => arg 5; whnf)))
  exact wD (Ends.plain (.inr rfl) rfl rfl)
theorem row4 {x0 x1 x2 x3 : UInt8} {v0 v1 v2 v3 : Value} (h0 : v0 = u8 x0) (h1 : v1 = u8 x1) (h2 : v2 = u8 x2) (h3 : v3 = u8 x3) : ∀ i, i < [x0, x1, x2, x3].length → rowB [x0, x1, x2, x3] i = cutF [v0, v1, v2, v3] 1 (0 + i) := by
  subst h0 h1 h2 h3
  intro i hi
  match i, hi with
  | 0, _ => rfl
  | 1, _ => rfl
  | 2, _ => rfl
  | 3, _ => rfl
def secretH (seed : H8) (idx i b : Int) : H8 := dig 115 [seed.l, [byteI (IntKind.u8.wrap idx), byteI (IntKind.u8.wrap i), byteI (IntKind.u8.wrap b), 0]]
theorem secret_can (seed : H8) (idx i b : Int) : Reads Tryz.prog 90 [.plain seed.x, .plain (.one (.raw (.int .i64 idx))), .plain (.one (.raw (.int .i64 i))), .plain (.one (.raw (.int .i64 b)))] [] (hashX (secretH seed idx i b)) := by
  refine Reads.of Tryz.T_ok Tryz.func90 rfl _ _ _ rfl rfl (fun C hC => ?_)
  (replace hC : C.n0 = 4 := hC; change Tri _ _ _ ⟨_, _, 4⟩ _)
  refine Tri.of Tryz.mixed Tryz.T_ok ?_
  (refine wBegin ?_; ((conv => arg 5; whnf); repeat (refine xS ?_; conv => arg 5; whnf)))
  (refine wP _ _ (cellsNew_op Tryz.T_ok rfl rfl rfl) ?_; ((conv => arg 5; whnf); repeat (refine xS ?_; conv => arg 5; whnf)))
  (apply wP; exact (call_op rfl (entersB_of Tryz.func35 (by kernel_rfl)) rfl ((digest_can 115 [seed.l, [byteI (IntKind.u8.wrap idx), byteI (IntKind.u8.wrap i), byteI (IntKind.u8.wrap b), 0]] (short2 _ _ _ (by simp [H8.l_len]))).at [14, 4, 13] ⟨lend_plain rfl, lend_parts [seed.l, [byteI (IntKind.u8.wrap idx), byteI (IntKind.u8.wrap i), byteI (IntKind.u8.wrap b), 0]] rfl rfl rfl ⟨lend_sla rfl rfl (fun _ _ => rfl) rfl, lend_vec (lo := 0) rfl rfl (Nat.le_refl _) (row4 (u8_byteI _).symm (u8_byteI _).symm (u8_byteI _).symm rfl), trivial⟩, trivial⟩ trivial)); ((conv => arg 5; whnf); repeat (refine xS ?_; conv => arg 5; whnf)))
  exact wD (Ends.plain (.inr rfl) rfl rfl)
end Go.Proofs.YtmoohekgheoliaaGreatDoor
namespace Go.Proofs.YtmoohekgheoliaaGreatDoor
set_option maxRecDepth 100000
open Go.Sx
def bitN (m : H8) (i : Nat) : Nat := ((m.l.getD (i / 8) 0).toNat / 2 ^ (i % 8)) % 2
theorem bitN_cases (m : H8) (i : Nat) : bitN m i = 0 ∨ bitN m i = 1 := by unfold bitN; omega
theorem ofInt_nat (n y : Nat) : BitVec.ofInt n (y : Int) = BitVec.ofNat n y := by
  apply BitVec.eq_of_toNat_eq
  rw [BitVec.toNat_ofInt, BitVec.toNat_ofNat]
  omega
theorem and1_u8 (y : Nat) : bitI .and .u8 (y : Int) 1 = ((y % 2 : Nat) : Int) := by
  show IntKind.u8.wrap (((BitVec.ofInt 8 (y : Int) &&& BitVec.ofInt 8 ((1 : Nat) : Int)).toNat : Int)) = _
  rw [ofInt_nat, ofInt_nat, BitVec.toNat_and, BitVec.toNat_ofNat, BitVec.toNat_ofNat, show 1 % 2 ^ 8 = 1 from rfl, Nat.and_one_is_mod, IntKind.wrap_u8]
  omega
theorem and1_i64 (y : Nat) : bitI .and .i64 (y : Int) 1 = ((y % 2 : Nat) : Int) := by
  show IntKind.i64.wrap (((BitVec.ofInt 64 (y : Int) &&& BitVec.ofInt 64 ((1 : Nat) : Int)).toNat : Int)) = _
  rw [ofInt_nat, ofInt_nat, BitVec.toNat_and, BitVec.toNat_ofNat, BitVec.toNat_ofNat, show 1 % 2 ^ 64 = 1 from rfl, Nat.and_one_is_mod, IntKind.wrap_i64]
  omega
theorem shr_nat (k : IntKind) (y s : Nat) (hs : s ≤ k.bits) : shrI k (y : Int) (s : Int) = ((y / 2 ^ s : Nat) : Int) := by
  have e : min ((s : Int).toNat) k.bits = s := by omega
  have h2 : ((2 : Int) ^ s) = ((2 ^ s : Nat) : Int) := by rw [Int.natCast_pow]; rfl
  rw [shrI, e, h2, Int.fdiv_eq_ediv_of_nonneg _ (Int.natCast_nonneg _), Int.natCast_ediv]
theorem bit_can (m : H8) (i : Nat) (hi : i < 64) : Reads Tryz.prog 135 [.plain m.x, .plain (.one (.raw (.int .i64 i)))] [] (XV.int .i64 (bitN m i)) := by
  refine Reads.of Tryz.T_ok Tryz.func135 rfl _ _ _ rfl rfl (fun C hC => ?_)
  (replace hC : C.n0 = 2 := hC; change Tri _ _ _ ⟨_, _, 2⟩ _)
  (refine Tri.cut 1 Tryz.mixed Tryz.T_ok ?_; ((conv => arg 5; whnf); repeat (refine xS ?_; conv => arg 5; whnf)))
  refine wD <| cutG <| Tri.ent (Ent.arrT (c := 2) 1 8 (rowB m.l) rfl rfl rfl (fun _ _ => rfl) (by decide) rfl (by rw [hC]; decide)) <| Tri.of Tryz.mixed Tryz.T_ok ?_
  have q1 : IntKind.i64.wrap (Int.tdiv (i : Int) 8) = ((i / 8 : Nat) : Int) := by
    have : Int.tdiv (i : Int) 8 = ((i / 8 : Nat) : Int) := rfl
    rw [this]; exact (by (try simp only [ww] at *); omega)
  have q2 : Int.tmod (i : Int) 8 = ((i % 8 : Nat) : Int) := rfl
  (refine wBegin ?_; ((conv => arg 5; whnf); repeat (refine xS ?_; conv => arg 5; whnf)))
  simp only [q1]
  (repeat (refine wN ?_ ?_; exact (by (try simp only [ww] at *); omega); refine wGo ?_; ((conv => arg 5; whnf); repeat (refine xS ?_; conv => arg 5; whnf))))
  simp only [q2]
  (repeat (refine wN ?_ ?_; exact (by (try simp only [ww] at *); omega); refine wGo ?_; ((conv => arg 5; whnf); repeat (refine xS ?_; conv => arg 5; whnf))))
  refine wD (Ends.plain (.inr rfl) rfl ?_)
  have e : IntKind.i64.wrap (bitI .and .u8 (shrI .u8 ((m.l.getD (((i / 8 : Nat) : Int).toNat) 0).toNat : Int) ((i % 8 : Nat) : Int)) 1) = ((bitN m i : Nat) : Int) := by
    have h8 : i % 8 ≤ IntKind.u8.bits := Nat.le_of_lt (Nat.mod_lt _ (by decide))
    rw [shr_nat _ _ _ h8, and1_u8, Int.toNat_natCast, IntKind.wrap_i64]
    unfold bitN
    omega
  exact congrArg (fun n : Int => XV.int .i64 n) e
theorem rbit_can (m : H8) (i : Nat) (hi : i < 64) : Reads Tryz.prog 91 [.plain m.x, .plain (.one (.raw (.int .i64 i)))] [] (XV.int .i64 (bitN m i)) := by
  refine Reads.of Tryz.T_ok Tryz.func91 rfl _ _ _ rfl rfl (fun C hC => ?_)
  (replace hC : C.n0 = 2 := hC; change Tri _ _ _ ⟨_, _, 2⟩ _)
  (refine Tri.cut 1 Tryz.mixed Tryz.T_ok ?_; ((conv => arg 5; whnf); repeat (refine xS ?_; conv => arg 5; whnf)))
  refine wD <| cutG <| Tri.ent (Ent.arrT (c := 2) 1 8 (rowB m.l) rfl rfl rfl (fun _ _ => rfl) (by decide) rfl (by rw [hC]; decide)) <| Tri.of Tryz.mixed Tryz.T_ok ?_
  have q1 : IntKind.i64.wrap (Int.tdiv (i : Int) 8) = ((i / 8 : Nat) : Int) := by
    have : Int.tdiv (i : Int) 8 = ((i / 8 : Nat) : Int) := rfl
    rw [this]; exact (by (try simp only [ww] at *); omega)
  have q2 : Int.tmod (i : Int) 8 = ((i % 8 : Nat) : Int) := rfl
  (refine wBegin ?_; ((conv => arg 5; whnf); repeat (refine xS ?_; conv => arg 5; whnf)))
  simp only [q1]
  (repeat (refine wN ?_ ?_; exact (by (try simp only [ww] at *); omega); refine wGo ?_; ((conv => arg 5; whnf); repeat (refine xS ?_; conv => arg 5; whnf))))
  simp only [q2]
  (repeat (refine wN ?_ ?_; exact (by (try simp only [ww] at *); omega); refine wGo ?_; ((conv => arg 5; whnf); repeat (refine xS ?_; conv => arg 5; whnf))))
  refine wD (Ends.plain (.inr rfl) rfl ?_)
  have e : bitI .and .i64 (shrI .i64 (IntKind.i64.wrap ((m.l.getD (((i / 8 : Nat) : Int).toNat) 0).toNat : Int)) (IntKind.u64.wrap ((i % 8 : Nat) : Int))) 1 = ((bitN m i : Nat) : Int) := by
    have h8 : i % 8 ≤ IntKind.i64.bits := Nat.le_trans (Nat.le_of_lt (Nat.mod_lt i (by decide : 8 > 0))) (by decide)
    have hb := (m.l.getD (i / 8) 0).toNat_lt
    have e1 : IntKind.i64.wrap ((m.l.getD (i / 8) 0).toNat : Int) = ((m.l.getD (i / 8) 0).toNat : Int) := (by (try simp only [ww] at *); omega)
    have e2 : IntKind.u64.wrap ((i % 8 : Nat) : Int) = ((i % 8 : Nat) : Int) := (by (try simp only [ww] at *); omega)
    rw [Int.toNat_natCast, e1, e2, shr_nat _ _ _ h8, and1_i64]
    rfl
  exact congrArg (fun n : Int => XV.int .i64 n) e
end Go.Proofs.YtmoohekgheoliaaGreatDoor
