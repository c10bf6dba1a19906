/- Parts SxR SxM SxN. -/
import Derived.Test.YtnpkdoggfnlapaaGreatDoorG03
import Derived.KernelRfl
import Derived.Laws.Bits64
import Derived.Laws.BitsLemmas
set_option linter.unusedSimpArgs false
set_option linter.unusedVariables false
namespace Go.Sx
open Go.RowKit
inductive Fr where
 | seq (y:Code)
 | block (id:Nat)
inductive pJ where
 | ops (sk:Option Bool) (ops:Array Oper) (b:Nat) (draw:Bool) (l:List Oper) (i:Nat) (S:St) (recs:List Rec) (stk:List Fr)
 | code (c:Code) (S:St) (stk:List Fr)
 | ex (e:Exit) (S:St) (stk:List Fr)
inductive Node where
 | cond (b:Bool) (t e:pJ)
 | need (p:Prop) (c:pJ)
 | prim (o:Oper) (S:St) (d:Nat) (ops:Array Oper) (b:Nat) (draw:Bool) (l:List Oper) (i:Nat) (recs:List Rec) (stk:List Fr)
 | loop (body:Code) (S:St) (stk:List Fr)
 | done (e:Exit) (S:St)
 | more (c:pJ)
 | fail
def lay (ih:pJ→Node) (ops:Array Oper) (b:Nat) (draw:Bool) (l:List Oper) (i:Nat) (S:St) (recs:List Rec) (stk:List Fr) (o:Oper) (d:Nat) (np:Option Prop) (r:Bo) (rd:List Nat):Node :=
 Ta r fun r =>
  bif Rec.ok (fun c=>Nat.blt c (d + 1)) d ⟨false,r,rd⟩ then
   Qr (S.app o.dst r) fun S' =>
    match np with
    | none=>ih (.ops none ops b draw l (i + 1) S' (⟨false,r,rd⟩::recs) stk)
    | some p => .need p (.ops none ops b draw l (i + 1) S' (⟨false,r,rd⟩::recs) stk)
  else .fail
def exec (step:Step) (ih:pJ→Node) (ops:Array Oper) (b:Nat) (draw:Bool) (l:List Oper) (i:Nat) (S:St) (recs:List Rec) (stk:List Fr) (o:Oper) (skip:Bool):Node :=
 O3 (b + i) fun d =>
  match skip with
  | true=>Qr (S.app o.dst kS) fun S'=>ih (.ops none ops b draw l (i + 1) S' (oM::recs) stk)
  | false =>
   match step S d o with
   | some (np,r,rd)=>lay ih ops b draw l i S recs stk o d np r rd
   | none => .prim o S d ops b draw l i recs stk
def Eo (step:Step) (ih:pJ→Node):pJ→Node
 | .ops sk ops b draw l i S recs stk =>
  match l with
  | []=>O3 (b + ops.size) fun nx =>
   match S with
   | ⟨sl,m,_⟩=>match draw with |true => .need (nP ops recs.reverse b=true) (.ex .normal ⟨sl,m,nx⟩ stk) |false=>ih (.ex .normal ⟨sl,m,nx⟩ stk)
  | o::l =>
   match sk with
   | some skip=>exec step ih ops b draw l i S recs stk o skip
   | none =>
    match o.guard with
    | none=>exec step ih ops b draw l i S recs stk o false
    | some (g,want) =>
     match (ops[g]?).bind (·.dst) with
     | none => .fail
     | some dg =>
      match dD S.slots dg with
      | some (.cv (.one (.raw (.bool t)))) =>
       Qr (S.set1 dg (XV.bool true)) fun S1=>Qr (S.set1 dg (XV.bool false)) fun S2 =>
        .cond t (.ops (some (!want)) ops b draw (o::l) i S1 recs stk) (.ops (some want) ops b draw (o::l) i S2 recs stk)
      | some (.cv (.one (.raw v)))=>bif uw v then .fail else exec step ih ops b draw l i S recs stk o true
      | _ => .fail
 | .code c S stk =>
  match c with
  | .skip |.label _=>ih (.ex .normal S stk)
  | .region _ ops draw=>match S with |⟨sl,m,nx⟩=>ih (.ops none ops nx draw ops.toList 0 ⟨sl,m,nx⟩ [] stk)
  | .seq x y=>ih (.code x S (.seq y::stk))
  | .cond c x y=>match S.ev c with |some (.cv (.one (.raw (.bool t)))) => .cond t (.code x S stk) (.code y S stk) |_ => .fail
  | .block id body=>ih (.code body S (.block id::stk))
  | .loop body => .loop body S stk
  | .exit id=>ih (.ex (.exit id) S stk)
  | .ret=>ih (.ex .ret S stk)
  | _ => .fail
 | .ex e S stk =>
  match stk with
  | [] => .done e S
  | .seq y::r=>match e with |.normal=>ih (.code y S r) |e=>ih (.ex e S r)
  | .block id::r=>match e with |.exit id'=>(match Nat.beq id' id with |true=>ih (.ex .normal S r) |false=>ih (.ex (.exit id') S r)) |e=>ih (.ex e S r)
def run (step:Step) (n:Nat):pJ→Node:=Nat.rec (fun c => .more c) (fun _ ih c=>Eo step ih c) n
def zZ (step:Step):List Fr→Exit→St→Tree
 | []=>Tree.done
 | .seq y::r=>fun e S=>match e with |.normal=>j6 step y S (zZ step r) |e=>zZ step r e S
 | .block id::r=>fun e S=>match e with |.exit id'=>bif Nat.beq id' id then zZ step r .normal S else zZ step r (.exit id') S |e=>zZ step r e S
def OA (step:Step) (ops:Array Oper) (b:Nat) (draw:Bool) (stk:List Fr):List Rec→St→Tree:=fun recs S' =>
 bif draw then .need (nP ops recs b=true) (zZ step stk .normal ⟨S'.slots,S'.mem,b + ops.size⟩) else zZ step stk .normal ⟨S'.slots,S'.mem,b + ops.size⟩
def M9 (step:Step) (ops:Array Oper) (b:Nat) (l:List Oper) (i:Nat) (recs:List Rec) (k:List Rec→St→Tree) (o:Oper) (S:St) (skip:Bool):Tree :=
 match skip with
 | true=>eO step ops b l (i + 1) (S.app o.dst kS) (oM::recs) k
 | false =>
  match step S (b + i) o with
  | some (np,r,rd)=>needs np (Us (Rec.ok (fun c=>Nat.blt c (b + i + 1)) (b + i) ⟨false,r,rd⟩) (eO step ops b l (i + 1) (S.app o.dst r) (⟨false,r,rd⟩::recs) k))
  | none => .prim o S (b + i) fun r rd=>Us (Rec.ok (fun c=>Nat.blt c (b + i + 1)) (b + i) ⟨false,r,rd⟩) (eO step ops b l (i + 1) (S.app o.dst r) (⟨false,r,rd⟩::recs) k)
theorem GA (step:Step) (ops:Array Oper) (b:Nat) (o:Oper) (l:List Oper) (i:Nat) (S:St) (recs:List Rec) (k:List Rec→St→Tree) :
  eO step ops b (o::l) i S recs k=guarded ops S o (M9 step ops b l i recs k o):=by
 simp only [eO,qH,tX,Bu]
 rfl
def pJ.tree (step:Step):pJ→Tree
 | .ops none os b draw l i S recs stk=>eO step os b l i S recs (OA step os b draw stk)
 | .ops (some _) os b draw [] i S recs stk=>eO step os b [] i S recs (OA step os b draw stk)
 | .ops (some skip) os b draw (o::l) i S recs stk=>M9 step os b l i recs (OA step os b draw stk) o S skip
 | .code c S stk=>j6 step c S (zZ step stk)
 | .ex e S stk=>zZ step stk e S
section
variable {P:Program} {C:Ctx} {Q:Exit→St→Prop} {step:Step}
def nZ (P:Program) (C:Ctx) (Q:Exit→St→Prop) (step:Step):Node→Prop
 | .cond b t e=>(b=true→kV P C Q (t.tree step))∧(b=false→kV P C Q (e.tree step))
 | .need p c=>p∧(p→kV P C Q (c.tree step))
 | .prim o S d ops b draw l i recs stk=>∃ r rd,bT P S d o r rd∧Rec.ok (fun c=>Nat.blt c (b + i + 1)) (b + i) ⟨false,r,rd⟩=true∧kV P C Q ((pJ.ops none ops b draw l (i + 1) (S.app o.dst r) (⟨false,r,rd⟩::recs) stk).tree step)
 | .loop body S stk=>kV P C Q (.loop body S (zZ step stk))
 | .done e S=>Q e S
 | .more c=>kV P C Q (c.tree step)
 | .fail=>False
theorem vU {ih:pJ→Node} (hih:∀ c,nZ P C Q step (ih c)→kV P C Q (c.tree step)) {ops:Array Oper} {b:Nat} {draw:Bool} {l:List Oper} {i:Nat} {S:St} {recs:List Rec} {stk:List Fr} {o:Oper} {skip:Bool}
  (h:nZ P C Q step (exec step ih ops b draw l i S recs stk o skip)):kV P C Q (M9 step ops b l i recs (OA step ops b draw stk) o S skip):=by
 simp only [exec,qH] at h
 cases skip with
 | true =>
  simp only [tX] at h
  exact hih _ h
 | false =>
  simp only at h
  simp only [M9]
  cases hst:step S (b + i) o with
  | none =>
   simp only [hst,nZ] at h
   obtain ⟨r,rd,h1,h2,h3⟩:=h
   refine ⟨r,rd,h1,?_⟩
   simp only [Us,h2,cond_true]
   exact h3
  | some y =>
   obtain ⟨np,r,rd⟩:=y
   simp only [hst,lay,Bu] at h
   cases hok:Rec.ok (fun c=>Nat.blt c (b + i + 1)) (b + i) ⟨false,r,rd⟩ with
   | false=>simp only [hok,cond_false,nZ] at h
   | true =>
    simp only [hok,cond_true,tX] at h
    simp only [Us,hok,cond_true]
    cases np with
    | none=>exact hih _ h
    | some p=>exact ⟨h.1,fun hp=>h.2 hp⟩
theorem Qe {ih:pJ→Node} (hih:∀ c,nZ P C Q step (ih c)→kV P C Q (c.tree step)):∀ c,nZ P C Q step (Eo step ih c)→kV P C Q (c.tree step)
 | .ops sk ops b draw [] i S recs stk,h=>by
  have main:kV P C Q (eO step ops b [] i S recs (OA step ops b draw stk)):=by
   simp only [Eo,qH] at h
   simp only [eO,OA]
   cases draw with
   | true=>simp only [cond_true];exact ⟨h.1,fun hp=>h.2 hp⟩
   | false=>simp only [cond_false];exact hih _ h
  cases sk<;>exact main
 | .ops (some skip) ops b draw (o::l) i S recs stk,h=>vU hih h
 | .ops none ops b draw (o::l) i S recs stk,h=>by
  simp only [pJ.tree,GA,guarded]
  simp only [Eo] at h
  cases hg:o.guard with
  | none =>
   simp only [hg] at h ⊢
   exact vU hih h
  | some gw =>
   obtain ⟨g,want⟩:=gw
   simp only [hg] at h ⊢
   cases hd:(ops[g]?).bind (·.dst) with
   | none=>simp only [hd,nZ] at h
   | some dg =>
    simp only [hd] at h ⊢
    split at h
    ·rename_i t ht
     simp only [tX,nZ,pJ.tree] at h
     rw [ht]
     exact h
    ·rename_i v hnb ht
     rw [ht]
     cases hb:uw v with
     | true=>simp only [hb,cond_true,nZ] at h
     | false =>
      simp only [hb,cond_false] at h
      simp only [hb,cond_false]
      exact vU hih h
    ·simp only [nZ] at h
 | .code c S stk,h=>by
  cases c with
  | skip=>simp only [Eo] at h;have h':=hih _ h;exact h'
  | label l=>simp only [Eo] at h;have h':=hih _ h;exact h'
  | region id ops draw =>
   simp only [Eo] at h
   have:=hih _ h
   simp only [pJ.tree,j6,vT,qH] at this ⊢
   exact this
  | seq x y=>simp only [Eo] at h;have h':=hih _ h;exact h'
  | cond c x y =>
   simp only [Eo] at h
   simp only [pJ.tree,j6]
   split at h
   ·rename_i t ht
    simp only [ht]
    exact h
   ·simp only [nZ] at h
  | block id body=>simp only [Eo] at h;have h':=hih _ h;exact h'
  | loop body=>simp only [Eo] at h;exact h
  | exit id=>simp only [Eo] at h;have h':=hih _ h;exact h'
  | ret=>simp only [Eo] at h;have h':=hih _ h;exact h'
  | rangeFunc f p a b=>simp only [Eo,nZ] at h
  | scope b=>simp only [Eo,nZ] at h
  | goto l=>simp only [Eo,nZ] at h
  | refuse w=>simp only [Eo,nZ] at h
 | .ex e S [],h=>by simp only [Eo] at h;exact h
 | .ex e S (.seq y::r),h=>by
  cases e<;>(simp only [Eo] at h;have h':=hih _ h;exact h')
 | .ex e S (.block id::r),h=>by
  cases e with
  | exit id' =>
   simp only [Eo] at h
   simp only [pJ.tree,zZ]
   cases hb:Nat.beq id' id with
   | true=>simp only [hb,cond_true] at h ⊢;have h':=hih _ h;exact h'
   | false=>simp only [hb,cond_false] at h ⊢;have h':=hih _ h;exact h'
  | _=>simp only [Eo] at h;have h':=hih _ h;exact h'
theorem p9:∀ (n:Nat) (c:pJ),nZ P C Q step (run step n c)→kV P C Q (c.tree step)
 | 0,_,h=>h
 | n + 1,c,h=>Qe (p9 n) c h
theorem XG {c:pJ} (h:nZ P C Q step (run step 4000 c)):kV P C Q (c.tree step):=p9 4000 c h
theorem wT {t e:pJ} (h:kV P C Q (t.tree step)):nZ P C Q step (.cond true t e):=⟨fun _=>h,fun h=>(by cases h)⟩
theorem wF {t e:pJ} (h:kV P C Q (e.tree step)):nZ P C Q step (.cond false t e):=⟨fun h=>(by cases h),fun _=>h⟩
theorem wC {b:Bool} {t e:pJ} (h1:b=true→kV P C Q (t.tree step)) (h2:b=false→kV P C Q (e.tree step)):nZ P C Q step (.cond b t e):=⟨h1,h2⟩
theorem wN {p:Prop} {c:pJ} (hp:p) (h:kV P C Q (c.tree step)):nZ P C Q step (.need p c):=⟨hp,fun _=>h⟩
theorem wO {ops:Array Oper} {recs:List Rec} {b:Nat} {c:pJ} (hp:nP ops recs b=true) (h:kV P C Q (c.tree step)):nZ P C Q step (.need (nP ops recs b=true) c):=⟨hp,fun _=>h⟩
theorem wP {o:Oper} {S:St} {d:Nat} {ops:Array Oper} {b:Nat} {draw:Bool} {l:List Oper} {i:Nat} {recs:List Rec} {stk:List Fr} (r:Bo) (rd:List Nat) (h:bT P S d o r rd)
  (hk:nZ P C Q step (lay (run step 4000) ops b draw l i S recs stk o (b + i) none r rd)):nZ P C Q step (.prim o S d ops b draw l i recs stk):=by
 refine ⟨r,rd,h,?_⟩
 simp only [lay,Bu,tX] at hk
 cases hok:Rec.ok (fun c=>Nat.blt c (b + i + 1)) (b + i) ⟨false,r,rd⟩ with
 | false=>simp only [hok,cond_false,nZ] at hk
 | true =>
  simp only [hok,cond_true] at hk
  exact ⟨rfl,p9 4000 _ hk⟩
theorem wD {e:Exit} {S:St} (h:Q e S):nZ P C Q step (.done e S):=h
theorem XF {c:Code} {S:St} (h:nZ P C Q step (Qr S fun S=>run step 4000 (.code c S []))):kV P C Q (j6 step c S Tree.done):=by
 rw [tX] at h
 exact p9 4000 _ h
end
theorem zm {P:Program} {C:Ctx} {Q:Exit→St→Prop} {step:Step} {b:Bool} {t e:pJ} (hb:b=true) (h:kV P C Q (t.tree step)):nZ P C Q step (.cond b t e):=⟨fun _=>h,fun h=>(by rw [hb] at h;cases h)⟩
theorem kE {P:Program} {C:Ctx} {Q:Exit→St→Prop} {step:Step} {b:Bool} {t e:pJ} (hb:b=false) (h:kV P C Q (e.tree step)):nZ P C Q step (.cond b t e):=⟨fun h=>(by rw [hb] at h;cases h),fun _=>h⟩
section
variable {P:Program} {C:Ctx} {Q:Exit→St→Prop} {step:Step}
theorem xT {t e:pJ} (h:nZ P C Q step (run step 4000 t)):nZ P C Q step (.cond true t e):=wT (XG h)
theorem xF {t e:pJ} (h:nZ P C Q step (run step 4000 e)):nZ P C Q step (.cond false t e):=wF (XG h)
theorem xO {ops:Array Oper} {recs:List Rec} {b:Nat} {c:pJ} (h:nZ P C Q step (run step 4000 c)) (hp:nP ops recs b=true:=by kernel_rfl):nZ P C Q step (.need (nP ops recs b=true) c):=wO hp (XG h)
theorem xN {p:Prop} {c:pJ} (h:nZ P C Q step (run step 4000 c)) (hp:p:=by decide):nZ P C Q step (.need p c):=wN hp (XG h)
theorem xU {b:Bool} {t e:pJ} (h:nZ P C Q step (run step 4000 t)) (hb:b=true:=by decide):nZ P C Q step (.cond b t e):=zm hb (XG h)
theorem xV {b:Bool} {t e:pJ} (h:nZ P C Q step (run step 4000 e)) (hb:b=false:=by decide):nZ P C Q step (.cond b t e):=kE hb (XG h)
end
theorem Zf (n:Int):IntKind.i64.wrap n=(n + 9223372036854775808) % 18446744073709551616 - 9223372036854775808:=IntKind.wrap_i64 n
theorem Zg (n:Int):IntKind.u64.wrap n=n % 18446744073709551616:=IntKind.wrap_u64 n
theorem Zh (n:Int):IntKind.u32.wrap n=n % 4294967296:=IntKind.wrap_u32 n
theorem Zi (n:Int):IntKind.u8.wrap n=n % 256:=IntKind.wrap_u8 n
theorem Zj {p:Prop} [Decidable p]:(decide p=true)=p:=decide_eq_true_eq
theorem Zk {p:Prop} [Decidable p]:(decide p=false) = ¬p:=propext decide_eq_false_iff_not
theorem Zl (n:Nat):((n:Int)).toNat=n:=Int.toNat_natCast n
inductive Nx:Node→pJ→Prop where
 | t {t e:pJ}:Nx (.cond true t e) t
 | f {t e:pJ}:Nx (.cond false t e) e
 | o {ops:Array Oper} {recs:List Rec} {b:Nat} {c:pJ} (hp:nP ops recs b=true):Nx (.need (nP ops recs b=true) c) c
 | n {p:Prop} {c:pJ} (hp:p):Nx (.need p c) c
 | u {b:Bool} {t e:pJ} (hb:b=true):Nx (.cond b t e) t
 | v {b:Bool} {t e:pJ} (hb:b=false):Nx (.cond b t e) e
theorem xS {P:Program} {C:Ctx} {Q:Exit→St→Prop} {step:Step} {n:Node} {c:pJ} (h:nZ P C Q step (run step 4000 c)) (hn:Nx n c:=by with_reducible first |exact .t |exact .f |exact .o (by kernel_rfl) |exact .n (by decide) |exact .u (by decide) |exact .v (by decide)):nZ P C Q step n:=by
 cases hn with
 | t=>exact xT h
 | f=>exact xF h
 | o hp=>exact xO h hp
 | n hp=>exact xN h hp
 | u hb=>exact xU h hb
 | v hb=>exact xV h hb
theorem ww:(∀ n:Int,IntKind.i64.wrap n=(n + 9223372036854775808) % 18446744073709551616 - 9223372036854775808)∧(∀ n:Int,IntKind.u64.wrap n=n % 18446744073709551616)∧(∀ n:Int,IntKind.u32.wrap n=n % 4294967296)∧(∀ n:Int,IntKind.u8.wrap n=n % 256)∧(∀ (p:Prop) [Decidable p],(decide p=true)=p)∧(∀ (p:Prop) [Decidable p],(decide p=false) = ¬p)∧(∀ n:Nat,((n:Int)).toNat=n) :=
 ⟨Zf,Zg,Zh,Zi,fun _ _=>Zj,fun _ _=>Zk,Zl⟩
theorem xZ {p q:Prop} (h:q) (e:q→p:=by (intro h;(conv=>arg 5;whnf);(repeat (refine xS ?_;conv=>arg 5;whnf));exact h)):p:=e h
theorem xG {p q:Prop} (h:q) (e:q→p:=by (intro h;refine XG ?_;(conv=>arg 5;whnf);(repeat (refine xS ?_;conv=>arg 5;whnf));exact h)):p:=e h
theorem xB {p q:Prop} (h:q) (e:q→p:=by (intro h;refine XF ?_;(conv=>arg 5;whnf);(repeat (refine xS ?_;conv=>arg 5;whnf));exact h)):p:=e h
theorem xW {p:Prop} (h:p:=by (try simp only [ww] at *);omega):p:=h
open Go.RowKit
def av (P:Program) (C:Ctx) (c:Code) (S:St) (Q:Exit→St→Prop):Prop:=∀ a w,iZ C S a w→c.wp P (fun e a' w'=>∃ S',iZ C S' a' w'∧Q e S') a w
theorem av.of {P:Program} {C:Ctx} {T:aU} {c:Code} {S:St} {Q:Exit→St→Prop} (hm:P.follows .mixedOrders=true) (hT:bf P T) (h:kV P C Q (j6 (pE T) c S Tree.done)):av P C c S Q :=
 fun a w hs=>wp_mono (je hm (zf hT) c S Tree.done a w h hs) fun _ _ _ ⟨S',h1,h2⟩=>⟨S',h1,h2⟩
theorem av.ent {P:Program} {C:Ctx} {c:Code} {S S':St} {Q:Exit→St→Prop} (h:aN C S S') (k:av P C c S' Q):av P C c S Q:=fun a w hs=>k a w (h a w hs)
def aC (P:Program) (f:FuncId) (Xs:List CV) (M:Mem) (d:Nat) (r:Bo) (rd:List Nat):Prop :=
 ∀ (β:Nat→Loc) (ow:Nat→Option Nat) (w:World) (vs:List Value),WF ow w→(∀ k,ow k≠some d)→iB β Xs vs→(∀ c∈rd,∀ ch,M.get c=some ch→Holds β ow w c ch) →
  Calls P f vs.toArray w fun e w'=>∃ v β' ow',e = .returned v∧Eff β ow w β' ow' w' r.wr d∧r.v.rel β' v∧∀ c ch,Mem.get r.upd c=some ch→Holds β' ow' w' c ch
def xM (P:Program) (f:FuncId):Bool :=
 match P.funcs[f]? with
 | some fn => !(fn.name == "runtime.NumGoroutine") && fn.body.isSome
 | none=>false
theorem enters {P:Program} {f:FuncId} (h:xM P f=true) (args:Array Value) (w:World):(callFunc f args).run P w = .ok (.enter f args) w:=by
 unfold xM at h
 split at h
 ·rename_i fn hf
  simp only [Bool.and_eq_true,Bool.not_eq_true'] at h
  obtain ⟨h1,h2⟩:=h
  have h3:fn.body.isNone=false:=by cases hb:fn.body<;>simp_all
  unfold callFunc
  simp only [Sem.run_bind,run_program,Result.andThen_ok,hf,h1,h3,Bool.false_eq_true,if_false,Sem.run_pure]
 ·cases h
theorem Ld {P:Program} {f:FuncId} {fn:Func} (hf:P.funcs[f]? = some fn) (h:(!(fn.name == "runtime.NumGoroutine") && fn.body.isSome)=true):xM P f=true:=by
 unfold xM
 rw [hf]
 exact h
def evs (S:St):List Operand→Option (List CV)
 | []=>some []
 | x::r=>match S.ev x,evs S r with |some (.cv c),some l=>some (c::l) |_,_=>none
theorem Rt {β:Nat→Loc} {S:St} {ρ:Operand→Value}:∀ (xs:List Operand) (Xs:List CV),evs S xs=some Xs→(∀ x∈xs,∀ X,S.ev x=some X→X.rel β (ρ x))→iB β Xs (xs.map ρ)
 | [],Xs,h,_=>by simp only [evs,Option.some.injEq] at h;subst h;rfl
 | x::r,Xs,h,hx=>by
  simp only [evs] at h
  split at h
  ·rename_i c l h1 h2
   cases h
   exact ⟨_,_,rfl,hx x (by simp) _ h1,Rt r l h2 (fun y hy=>hx y (by simp [hy]))⟩
  ·cases h
theorem UE {P:Program} {S:St} {d:Nat} {o:Oper} {f:FuncId} {args:Array Operand} {argTypes:Array TypeId} {Xs:List CV} {r:Bo} {rd:List Nat} (ho:o.op = .call { callee := .value (.func f),args:=args,argTypes:=argTypes })
  (hf:xM P f=true) (hx:evs S args.toList=some Xs) (h:aC P f Xs S.mem d r rd):bT P S d o r rd:=by
 intro β ow w a K Q hw hd hops hr hK
 have hvs:=Rt (β:=β) (ρ:=a.eval) args.toList Xs hx (fun x hx X hX=>hops x (by rw [ho];simp [Op.operands,Call.operands];exact .inr (Array.mem_toList_iff.1 hx)) X hX)
 have hc:=h β ow w _ hw hd hvs hr
 have hrun:(execOp a.eval o).run P w = .ok (.enter f (args.toList.map a.eval).toArray) w:=by
  have e1:(args.toList.map a.eval).toArray=args.map a.eval:=by rw [← Array.toList_map,Array.toArray_toList]
  rw [e1]
  simp only [execOp,ho,resolve,Act.eval,Deferred.ofValue,Sem.run_bind,Sem.run_pure,Result.andThen_ok,invoke]
  simp [enters hf]
 unfold Oper.wp
 rw [hrun]
 refine hc.mono ?_
 rintro e w' ⟨v,β',ow',rfl,h1,h2,h3⟩
 exact hK β' ow' w' v h1 h2 h3
def SV.ren (ρ:Nat→Nat):SV→SV
 | .raw v => .raw v
 | .ptr c i sz j => .ptr (ρ c) i sz j
 | .slc c sz lo len => .slc (ρ c) sz lo len
 | .map c => .map (ρ c)
 | .inn c j => .inn (ρ c) j
 | .sla c off sz len cap => .sla (ρ c) off sz len cap
 | .ins c m j len => .ins (ρ c) m j len
 | .fn f caps => .fn f (caps.map ρ)
def CV.ren (ρ:Nat→Nat):CV→CV
 | .one s => .one (s.ren ρ)
 | .agg cs => .agg (cs.map (SV.ren ρ))
def XV.ren (ρ:Nat→Nat):XV→XV
 | .cv c => .cv (c.ren ρ)
 | .tup l => .tup (l.map (CV.ren ρ))
section
variable {β:Nat→Loc} {ρ:Nat→Nat}
theorem SV.jA (s:SV) (v:Value):(s.ren ρ).rel β v↔s.rel (fun c=>β (ρ c)) v:=by
 cases s with
 | fn f caps=>simp only [SV.ren,SV.rel,List.map_map];rfl
 | _=>rfl
theorem bg.ren:∀ (ss:List SV) (vs:List Value),bg β (ss.map (SV.ren ρ)) vs↔bg (fun c=>β (ρ c)) ss vs
 | [],vs=>Iff.rfl
 | s::ss,vs=>by
  simp only [List.map_cons,bg,SV.jA,bg.ren ss]
theorem CV.jA (s:CV) (v:Value):(s.ren ρ).rel β v↔s.rel (fun c=>β (ρ c)) v:=by
 cases s with
 | one s=>exact SV.jA s v
 | agg cs=>simp only [CV.ren,CV.rel,bg.ren]
theorem iB.ren:∀ (ss:List CV) (vs:List Value),iB β (ss.map (CV.ren ρ)) vs↔iB (fun c=>β (ρ c)) ss vs
 | [],vs=>Iff.rfl
 | s::ss,vs=>by
  simp only [List.map_cons,iB,CV.jA,iB.ren ss]
theorem XV.jA (s:XV) (v:Value):(s.ren ρ).rel β v↔s.rel (fun c=>β (ρ c)) v:=by
 cases s with
 | cv s=>exact CV.jA s v
 | tup l=>simp only [XV.ren,XV.rel,iB.ren]
end
def Chunk.closed:Chunk→Bool
 | .cells _ cs=>cs.all (SV.ok fun _=>false)
 | _=>true
def Chunk.fD:Chunk→Bool
 | .ro _ _ _=>true
 | .ext _=>true
 | _=>false
theorem Holds.move {β β':Nat→Loc} {ow ow':Nat→Option Nat} {w:World} {c c':Nat} {ch:Chunk} (hc:ch.closed=true) (hl:β' c'=β c) (ho:ch.fD=false→∀ k,ow' k=some c'↔ow k=some c)
  (hn:ch.fD=true→∀ k,ow k=none→ow' k=none) (h:Holds β ow w c ch):Holds β' ow' w c' ch:=by
 cases ch with
 | cells e cs =>
  obtain ⟨h0,h1,h2,arr,h3,h4⟩:=h
  exact ⟨by rw [hl];exact h0,by rw [hl];exact h1,by rw [hl];exact (ho rfl _).2 h2,arr,by rw [hl];exact h3,bg.congr (p:=fun _=>false) (fun _ h=>by cases h) hc h4⟩
 | vec e sz n f =>
  simp only [Holds] at h ⊢
  rw [hl]
  by_cases hn':(β c).nil=true
  ·rw [if_pos hn'] at h ⊢;exact h
  ·rw [if_neg hn'] at h ⊢
   obtain ⟨h1,h2,h3⟩:=h
   exact ⟨h1,(ho rfl _).2 h2,h3⟩
 | ro sz n f =>
  simp only [Holds] at h ⊢
  rw [hl]
  by_cases hn':(β c).nil=true
  ·rw [if_pos hn'] at h ⊢;exact h
  ·rw [if_neg hn'] at h ⊢
   exact ⟨hn rfl _ h.1,h.2⟩
 | abs A =>
  obtain ⟨h0,h1,h2⟩:=h
  refine ⟨by rw [hl];exact h0,by rw [hl];exact h1,?_⟩
  rw [hl]
  exact A.loc (fun _ _=>rfl) (fun k=>ho rfl k) h2
 | ext A =>
  obtain ⟨O,h1,h2⟩:=h
  exact ⟨O,fun k hk=>⟨hn rfl _ (h1 k hk).1,(h1 k hk).2⟩,by rw [hl];exact h2⟩
def lidx (c:Nat):List Nat→Option Nat
 | []=>none
 | x::r=>if x=c then some 0 else (lidx c r).map (· + 1)
theorem fM {c:Nat}:∀ {l:List Nat} {i:Nat},lidx c l=some i→l[i]? = some c
 | [],i,h=>by simp [lidx] at h
 | x::r,i,h=>by
  simp only [lidx] at h
  by_cases hx:x=c
  ·rw [if_pos hx] at h;cases h;simp [hx]
  ·rw [if_neg hx] at h
   cases hr:lidx c r with
   | none=>simp [hr] at h
   | some j=>simp [hr] at h;subst h;simpa using fM hr
theorem cB {l:List Nat} (hl:l.Nodup) {c:Nat} {i:Nat} (h:l[i]? = some c):lidx c l=some i:=by
 induction l generalizing i with
 | nil=>simp at h
 | cons x r ih =>
  obtain ⟨h1,h2⟩:=List.nodup_cons.1 hl
  cases i with
  | zero=>simp at h;simp [lidx,h]
  | succ i =>
   have h':r[i]? = some c:=by simpa using h
   have hx:¬ x=c:=fun e=>h1 (e▸List.mem_of_getElem? h')
   simp [lidx,hx,ih h2 h']
structure Out where
 v:XV
 upd:List (Nat×Chunk):=[]
 fr:Option (Nat×Chunk):=none
def Ends (C:Ctx) (T:aU) (rs:List ResultVar) (k1 n0:Nat) (out:Out) (e:Exit) (S:St):Prop :=
 (e = .normal∨e = .ret)∧∃ S',aN C S S'∧tK T S' rs=some out.v∧(∀ i ch,Mem.get out.upd i=some ch→i<k1∧S'.mem.get i=some ch)∧(∀ i ch,out.fr=some (i,ch)→n0≤i∧S'.mem.get i=some ch)
def gX (ids:List Nat) (d:Nat) (fr:Option (Nat×Chunk)) (c:Nat):Nat :=
 match fr with
 | some (i,_)=>if c=i then d else (ids[c]?).getD d
 | none=>(ids[c]?).getD d
theorem fE {P:Program} {T:aU} {f:FuncId} {fn:Func} {c:Code} (hT:bf P T) (hf:P.funcs[f]? = some fn) (hb:fn.body=some c)
  {Xl:List CV} {M0:Mem} {k1 n0:Nat} {ids rids:List Nat} {d:Nat} {M:Mem} {out:Out} (hids:ids.Nodup) (hk1:ids.length=k1) (hn0:k1 + rids.length=n0) (hd:d ∉ ids++rids)
  (hXl:Xl.all (CV.ok fun i=>Nat.blt i n0)=true) (hM0:∀ i ch,M0.get i=some ch→i<n0∧ch.closed=true∧(k1≤i→ch.fD=true)∧∀ ci,(ids++rids)[i]? = some ci→M.get ci=some ch)
  (hup:∀ i ch,Mem.get out.upd i=some ch→ch.closed=true∧ch.fD=false) (hfr:∀ i ch,out.fr=some (i,ch)→ch.closed=true∧ch.fD=false)
  (hv:out.v.ok (fun i=>Nat.blt i n0 || (match out.fr with |some (j,_)=>Nat.beq j i |none=>false))=true)
  (h:∀ C:Ctx,C.n0=n0→av P C c ⟨fV fn.ntmps (Xl.map .cv),M0,n0⟩ (Ends C T fn.results.toList k1 n0 out))
  {Xs:List CV} (hXs:Xs=Xl.map (CV.ren fun i=>((ids++rids)[i]?).getD d)) {r:Bo} (hrv:r.v=out.v.ren (gX (ids++rids) d out.fr)) (hwr:r.wr=ids)
  (hru:∀ c ch,Mem.get r.upd c=some ch→(∃ i,ids[i]? = some c∧Mem.get out.upd i=some ch)∨(c=d∧∃ i,out.fr=some (i,ch))):aC P f Xs M d r (ids++rids):=by
 intro β ow w vs hw hfresh hvs hr
 subst hXs
 let ρ:Nat→Nat:=fun i=>((ids++rids)[i]?).getD d
 let βl:Nat→Loc:=fun i=>β (ρ i)
 let owl:Nat→Option Nat:=fun k=>(ow k).bind fun c=>lidx c ids
 have hargs:iB βl Xl vs:=(iB.ren Xl vs).1 hvs
 have hdi:d ∉ ids:=fun h=>hd (List.mem_append_left _ h)
 have hwl:WF owl w:=fun k hk=>hw k (fun e=>hk (by simp [owl,e]))
 have hown:∀ k i,owl k=some i↔∃ ci,ids[i]? = some ci∧ow k=some ci:=by
  intro k i
  constructor
  ·intro hk
   cases ho:ow k with
   | none=>simp [owl,ho] at hk
   | some ci=>exact ⟨ci,fM (by simpa [owl,ho] using hk),rfl⟩
  ·rintro ⟨ci,h1,h2⟩
   simp only [owl,h2,Option.bind_some]
   exact cB hids h1
 have hownlt:∀ k i,owl k=some i→i<k1:=by
  intro k i hk
  obtain ⟨ci,e1,_⟩:=(hown k i).1 hk
  rw [← hk1]
  exact (List.getElem?_eq_some_iff.1 e1).1
 let C:Ctx:={ w0:=w,own0:=fun k=>owl k≠none,β0:=βl,n0:=n0 }
 have hheld:∀ i ch,M0.get i=some ch→Holds βl owl w i ch:=by
  intro i ch hi
  obtain ⟨h1,h2,h4,h3⟩:=hM0 i ch hi
  have hil:i<(ids++rids).length:=by rw [List.length_append];omega
  have hci:(ids++rids)[i]? = some (ids++rids)[i]:=List.getElem?_eq_getElem hil
  have hm:=hr (ids++rids)[i] (List.getElem_mem hil) ch (h3 _ hci)
  refine Holds.move (β:=β) (ow:=ow) (c:=(ids++rids)[i]) h2 (by simp [βl,ρ,hci]) (fun hro k => ?_) (fun _ k hk=>by simp [owl,hk]) hm
  have hik:i<k1:=by
   rcases Nat.lt_or_ge i k1 with h' |h'
   ·exact h'
   ·rw [h4 h'] at hro;cases hro
  have hci':ids[i]? = some (ids++rids)[i]:=by rw [← hci,List.getElem?_append_left (by omega)]
  rw [hown]
  constructor
  ·rintro ⟨ci,e1,e2⟩;rw [hci'] at e1;cases e1;exact e2
  ·intro e;exact ⟨_,hci',e⟩
 have hlenv:vs.length=Xl.length:=by
  have:∀ (a:List CV) (b:List Value),iB βl a b→b.length=a.length:=by
   intro a
   induction a with
   | nil=>intro b hb;cases hb;rfl
   | cons x r ih=>rintro b ⟨v,r',rfl,_,h2⟩;simp [ih r' h2]
  exact this _ _ hargs
 have hsat:iZ C ⟨fV fn.ntmps (Xl.map .cv),M0,n0⟩ { tmps:=vs.toArray++Array.replicate (fn.ntmps - vs.toArray.size) undef,defers:=[] } w:=by
  have look:∀ (a:List CV) (b:List Value) (m:Nat),iB βl a b→∀ t X,dD (a.map (fun c=>some (XV.cv c))++List.replicate m none) t=some X→∃ v,b[t]? = some v∧X.rel βl v∧∃ c∈a,X = .cv c:=by
   intro a
   induction a with
   | nil =>
    intro b m _ t X hX
    exfalso
    have:∀ m t,dD (List.replicate m none) t=none:=by
     intro m
     induction m with
     | zero=>intro t;rfl
     | succ m ih=>intro t;cases t<;>simp [List.replicate_succ,dD,ih]
    simp [this] at hX
   | cons x r ih =>
    rintro b m ⟨v,r',rfl,h1,h2⟩ t X hX
    cases t with
    | zero=>simp only [List.map_cons,List.cons_append,dD,Option.some.injEq] at hX;subst hX;exact ⟨v,rfl,h1,x,by simp,rfl⟩
    | succ t =>
     simp only [List.map_cons,List.cons_append,dD] at hX
     obtain ⟨v',e1,e2,c,e3,e4⟩:=ih r' m h2 t X hX
     exact ⟨v',by simpa using e1,e2,c,by simp [e3],e4⟩
  have hsl:fV fn.ntmps (Xl.map .cv)=Xl.map (fun c=>some (XV.cv c))++List.replicate (fn.ntmps - Xl.length) none:=by simp [fV]
  refine ⟨βl,owl,⟨rfl,?_,?_,hheld,hwl⟩,⟨?_,?_⟩,⟨rfl,rfl,rfl,Nat.le_refl _,fun k _ hk=>⟨rfl,by simpa [C] using hk⟩,fun _ _=>rfl⟩,Nat.le_refl _,?_⟩
  ·simp [hsl,hlenv]
  ·intro t X hX
   rw [hsl] at hX
   obtain ⟨v,e1,e2,_⟩:=look Xl vs _ hargs t X hX
   have:(vs.toArray++Array.replicate (fn.ntmps - vs.toArray.size) undef).getD t undef=v:=by
    have hlt:t<vs.length:=(List.getElem?_eq_some_iff.1 e1).1
    rw [Array.getD_eq_getD_getElem?,Array.getElem?_append_left (by simpa using hlt)]
    simp [e1]
   rw [this];exact e2
  ·intro t X hX
   rw [hsl] at hX
   obtain ⟨v,_,_,cv,e3,rfl⟩:=look Xl vs _ hargs t X hX
   exact List.all_eq_true.1 hXl cv e3
  ·intro i ch hi
   obtain ⟨h1,h2,_⟩:=hM0 i ch hi
   refine ⟨by simpa using h1,?_⟩
   cases ch with
   | cells e cs=>exact SVs.aG (fun _ h=>by cases h) h2
   | _=>rfl
  ·intro k i hk
   have:=hownlt k i hk
   simp only [Nat.blt_eq];omega
 refine calls_of_wp hf hb (wp_mono (h C rfl _ w hsat) ?_)
 rintro e a w' ⟨S',hs',he⟩
 obtain ⟨hex,S2,hent,hres,hupd,hfre⟩:=he
 obtain ⟨β1,ow1,g1,g2,g3,g4,g5⟩:=hent a w' hs'
 obtain ⟨x,hx,hrel⟩:=NT hT g1 hres
 have hg:a.defers=[]:=g1.defers
 have key:∃ v β' ow',Ending.returned x = .returned v∧Eff β ow w β' ow' w' r.wr d∧r.v.rel β' v∧∀ c ch,Mem.get r.upd c=some ch→Holds β' ow' w' c ch:=by
  let jf:Nat:=match out.fr with |some (i,_)=>i |none=>n0
  let β':Nat→Loc:=aX β d (β1 jf)
  -- who owns what,in the caller's numbers
  let ow':Nat→Option Nat:=fun k =>
   match ow1 k with
   | some i=>if i<k1 then ids[i]? else (match out.fr with |some (j,_)=>if i=j then some d else none |none=>none)
   | none=>if k<w.heap.size∧owl k=none then ow k else none
  have hβl:∀ i,i<n0→β1 i=β (ρ i):=fun i hi=>g3.beta i hi
  have hfn:∀ i ch,out.fr=some (i,ch)→n0≤i:=fun i ch hi=>(hfre i ch hi).1
  have hmem:∀ i,i<n0→∃ ci,(ids++rids)[i]? = some ci∧ci∈ids++rids:=fun i hi=>by
   have hil:i<(ids++rids).length:=by rw [List.length_append];omega
   exact ⟨(ids++rids)[i],List.getElem?_eq_getElem hil,List.getElem_mem hil⟩
  have hold:∀ k,k<w.heap.size→(∀ c∈ids,ow k≠some c)→w'.heap[k]? = w.heap[k]?∧ow' k=ow k:=by
   intro k hk hne
   have hno:owl k=none:=by
    cases ho:owl k with
    | none=>rfl
    | some i =>
     obtain ⟨ci,e1,e2⟩:=(hown k i).1 ho
     exact absurd e2 (hne ci (List.mem_of_getElem? e1))
   obtain ⟨e1,e2⟩:=g3.keep k hk (by simp [C,hno])
   exact ⟨e1,by simp [ow',e2,hk,hno]⟩
  have hβd:∀ c,c≠d→β' c=β c:=fun c hc=>by simp [β',aX,hc]
  refine ⟨x,β',ow',rfl,⟨hβd,g3.os,g3.tape,g3.output,g3.size,?_,?_,?_⟩,?_,?_⟩
  ·intro k hk hne;rw [hwr] at hne;exact hold k hk hne
  ·intro k hk c0 hc
   rw [hwr]
   rw [hwr] at hk
   simp only [ow'] at hc
   cases ho:ow1 k with
   | some i =>
    simp only [ho] at hc
    by_cases hi:i<k1
    ·rw [if_pos hi] at hc
     exact .inl (List.mem_of_getElem? hc)
    ·rw [if_neg hi] at hc
     split at hc
     ·split at hc
      ·cases hc;exact .inr rfl
      ·cases hc
     ·cases hc
   | none =>
    simp only [ho] at hc
    split at hc
    ·rename_i hcond
     rcases hk with hk |⟨c1,h1,h2⟩
     ·omega
     ·exfalso
      have hidx:∃ i,ids[i]? = some c1:=List.getElem?_of_mem h1
      obtain ⟨i,hi⟩:=hidx
      have:=(hown k i).2 ⟨c1,hi,h2⟩
      rw [hcond.2] at this;cases this
    ·cases hc
  ·intro k hk
   simp only [ow'] at hk
   cases ho:ow1 k with
   | some i=>exact g1.wf k (by simp [ho])
   | none =>
    simp only [ho] at hk
    split at hk
    ·rename_i hcond
     exact Nat.lt_of_lt_of_le hcond.1 g3.size
    ·exact absurd rfl hk
  ·rw [hrv,XV.jA]
   refine XV.aW (p:=fun i=>Nat.blt i n0 || (match out.fr with |some (j,_)=>Nat.beq j i |none=>false)) (fun i hi => ?_) hv hrel
   simp only [Bool.or_eq_true,Nat.blt_eq] at hi
   rcases hi with hi |hi
   ·obtain ⟨ci,e1,e2⟩:=hmem i hi
    have hr:gX (ids++rids) d out.fr i=ci:=by
     unfold gX
     split
     ·rename_i j ch hj
      have:=hfn j ch hj
      rw [if_neg (by omega),e1];rfl
     ·rw [e1];rfl
    rw [hr,hβd ci (fun e=>hd (e▸e2)),hβl i hi]
    simp [ρ,e1]
   ·cases hfo:out.fr with
    | none=>simp [hfo] at hi
    | some y =>
     obtain ⟨j,ch⟩:=y
     simp only [hfo,aL,decide_eq_true_eq] at hi
     subst hi
     simp [gX,β',aX,jf,hfo]
  ·intro c0 ch hc
   rcases hru c0 ch hc with ⟨i,e1,e2⟩ |⟨rfl,i,e2⟩
   ·obtain ⟨h1,h2⟩:=hupd i ch e2
    have e1':(ids++rids)[i]? = some c0:=by rw [List.getElem?_append_left (by omega)];exact e1
    refine Holds.move (β:=β1) (ow:=ow1) (c:=i) (hup i ch e2).1 ?_ (fun _ k => ?_) (fun hro=>by rw [(hup i ch e2).2] at hro;cases hro) (g1.mem i ch h2)
    ·have hm':c0∈ids:=List.mem_of_getElem? e1
     rw [hβd c0 (fun e=>hdi (e▸hm')),hβl i (by omega)]
     simp [ρ,e1']
    ·simp only [ow']
     constructor
     ·intro hk
      cases ho:ow1 k with
      | some i' =>
       simp only [ho] at hk
       by_cases hi':i'<k1
       ·rw [if_pos hi'] at hk
        have:=cB hids hk
        rw [cB hids e1] at this
        cases this;rfl
       ·rw [if_neg hi'] at hk
        split at hk
        ·split at hk
         ·cases hk;exact absurd (List.mem_of_getElem? e1) hdi
         ·cases hk
        ·cases hk
      | none =>
       simp only [ho] at hk
       split at hk
       ·rename_i hcond
        have:=(hown k i).2 ⟨c0,e1,hk⟩
        rw [hcond.2] at this;cases this
       ·cases hk
     ·intro hk
      rw [hk]
      simp only [if_pos h1,e1]
   ·obtain ⟨h1,h2⟩:=hfre i ch e2
    refine Holds.move (β:=β1) (ow:=ow1) (c:=i) (hfr i ch e2).1 (by simp [β',aX,jf,e2]) (fun _ k => ?_) (fun hro=>by rw [(hfr i ch e2).2] at hro;cases hro) (g1.mem i ch h2)
    simp only [ow']
    constructor
    ·intro hk
     cases ho:ow1 k with
     | some i' =>
      simp only [ho] at hk
      by_cases hi':i'<k1
      ·rw [if_pos hi'] at hk
       exact absurd (List.mem_of_getElem? hk) hdi
      ·rw [if_neg hi',e2] at hk
       simp only at hk
       split at hk
       ·rename_i he;rw [he]
       ·cases hk
     | none =>
      simp only [ho] at hk
      split at hk
      ·exact absurd hk (hfresh k)
      ·cases hk
    ·intro hk
     rw [hk]
     have:¬ i<k1:=by omega
     simp only [if_neg this,e2,if_true]
 rcases hex with rfl |rfl
 ·exact ⟨hg,x,hx,key⟩
 ·exact ⟨hg,x,hx,key⟩
open Go.RowKit
theorem SV.SY {p:Nat→Bool} {ρ:Nat→Nat} (h:∀ c,p c=true→ρ c=c) {s:SV} (hs:s.ok p=true):s.ren ρ=s:=by
 cases s with
 | raw v=>rfl
 | fn f caps =>
  simp only [SV.ok,List.all_eq_true] at hs
  simp only [SV.ren]
  congr 1
  exact (List.map_congr_left fun c hc=>h c (hs c hc)).trans (List.map_id' caps)
 | _=>simp only [SV.ok] at hs;simp only [SV.ren];rw [h _ hs]
theorem SV.Sb (s:SV):s.ok (fun _=>true)=true:=by
 cases s with
 | fn f caps=>simp [SV.ok]
 | _=>rfl
theorem SV.aM {ρ:Nat→Nat} {s:SV} (h:s.ok (fun _=>false)=true):s.ren ρ=s:=by
 cases s with
 | fn f caps =>
  simp only [SV.ok,List.all_eq_true] at h
  have:caps=[]:=by
   cases caps with
   | nil=>rfl
   | cons c r=>exact absurd (h c (List.mem_cons_self ..)) (by simp)
  subst this
  rfl
 | raw v=>rfl
 | _=>cases h
theorem SVs.aM {ρ:Nat→Nat}:∀ {l:List SV},l.all (SV.ok fun _=>false)=true→l.map (SV.ren ρ)=l
 | [],_=>rfl
 | s::r,h=>by
  simp only [List.all_cons,Bool.and_eq_true] at h
  rw [List.map_cons,SV.aM h.1,SVs.aM h.2]
theorem CV.aM {ρ:Nat→Nat} {s:CV} (h:s.ok (fun _=>false)=true):s.ren ρ=s:=by
 cases s with
 | one s=>simp only [CV.ren,SV.aM h]
 | agg cs=>simp only [CV.ren,SVs.aM h]
theorem iB.aM {ρ:Nat→Nat}:∀ {l:List CV},l.all (CV.ok fun _=>false)=true→l.map (CV.ren ρ)=l
 | [],_=>rfl
 | s::r,h=>by
  simp only [List.all_cons,Bool.and_eq_true] at h
  rw [List.map_cons,CV.aM h.1,iB.aM h.2]
theorem XV.aM {ρ:Nat→Nat} {s:XV} (h:s.ok (fun _=>false)=true):s.ren ρ=s:=by
 cases s with
 | cv s=>simp only [XV.ren,CV.aM h]
 | tup l=>simp only [XV.ren,iB.aM h]
theorem jC {P:Program} {T:aU} {f:FuncId} {fn:Func} {c:Code} (hm:P.follows .mixedOrders=true) (hT:bf P T) (hf:P.funcs[f]? = some fn) (hb:fn.body=some c) (Xl:List CV) (X:XV)
  (hXl:Xl.all (CV.ok fun _=>false)=true) (hX:X.ok (fun _=>false)=true)
  (h:∀ C:Ctx,C.n0=0→kV P C (Ends C T fn.results.toList 0 0 ⟨X,[],none⟩) (j6 (pE T) c ⟨fV fn.ntmps (Xl.map .cv),[],0⟩ Tree.done)) (M:Mem) (d:Nat):aC P f Xl M d { v:=X } []:=by
 refine fE (ids:=[]) (rids:=[]) hT hf hb (by simp) rfl rfl (by simp) ?_ (fun i ch h=>by simp [Mem.get] at h) (fun i ch h=>by simp [Mem.get] at h) (fun i ch h=>by cases h) ?_ (fun C hC=>av.of hm hT (h C hC)) (iB.aM hXl).symm (XV.aM hX).symm rfl (fun c ch h=>by simp [Mem.get] at h)
 ·simp only [List.all_eq_true] at hXl ⊢
  exact fun s hs=>CV.aG (fun _ h=>by cases h) (hXl s hs)
 ·exact XV.aG (fun _ h=>by cases h) hX
theorem Ends.plain {C:Ctx} {T:aU} {rs:List ResultVar} {n0:Nat} {X v:XV} {S:St} {e:Exit} (he:e = .normal∨e = .ret) (hr:tK T S rs=some v) (hv:v=X):Ends C T rs 0 n0 ⟨X,[],none⟩ e S :=
 ⟨he,S,aN.refl S,by rw [hr,hv],fun i ch h=>by simp [Mem.get] at h,fun i ch h=>by cases h⟩
def Chunk.isCells:Chunk→Bool
 | .cells _ _=>true
 | _=>false
def Chunk.ren (ρ:Nat→Nat):Chunk→Chunk
 | .cells e cs => .cells e (cs.map (SV.ren ρ))
 | ch=>ch
def Mem.ren (ρ:Nat→Nat):Mem→Mem
 | []=>[]
 | (c,ch)::r=>(ρ c,ch.ren ρ)::Mem.ren ρ r
def kZ:Chunk→Chunk→Prop
 | .cells e cs,.cells e' cs'=>e=e'∧cs=cs'
 | .vec e sz n f,.vec e' sz' n' f'=>e=e'∧sz=sz'∧n'≤n∧∀ i,i<n'→f i=f' i
 | .abs A,.abs A'=>A=A'
 | _,_=>False
theorem kZ.holds {a b:Chunk} (h:kZ a b) {β:Nat→Loc} {ow:Nat→Option Nat} {w:World} {c:Nat} (H:Holds β ow w c a):Holds β ow w c b:=by
 cases a<;>cases b<;>simp only [kZ] at h
 ·obtain ⟨rfl,rfl⟩:=h;exact H
 ·obtain ⟨rfl,rfl,hle,hf⟩:=h
  simp only [Holds] at H ⊢
  by_cases hn:(β c).nil=true
  ·rw [if_pos hn] at H ⊢;omega
  ·rw [if_neg hn] at H ⊢
   obtain ⟨h1,h2,h3,h4,arr,h5,h6,h7⟩:=H
   exact ⟨h1,h2,Nat.le_trans hle h3,h4,arr,h5,h6,fun i hi=>by rw [← hf i hi];exact h7 i (Nat.lt_of_lt_of_le hi hle)⟩
 ·subst h;exact H
theorem kZ.refl:∀ (a:Chunk),a.fD=false→kZ a a
 | .cells _ _,_=>⟨rfl,rfl⟩
 | .vec _ _ _ _,_=>⟨rfl,rfl,Nat.le_refl _,fun _ _=>rfl⟩
 | .abs _,_=>rfl
theorem Holds.trans {β β':Nat→Loc} {ow ow':Nat→Option Nat} {w w':World} {c c':Nat} {ρ:Nat→Nat} {ch:Chunk} {p:Nat→Bool} (hp:ch.ok p=true) (hβ:∀ i,p i=true→β' (ρ i)=β i) (hblk:(β' c').blk=(β c).blk) (hbase:(β' c').base=(β c).base) (hnil:(β' c').nil=(β c).nil)
  (hcap:((β' c').cap=(β c).cap∧(β' c').sub=(β c).sub)∨ch.isCells=true) (hro:ch.fD=false) (ho:∀ k,ow' k=some c'↔ow k=some c) (hh:∀ k,ow k=some c→w'.heap[k]? = w.heap[k]?) (h:Holds β ow w c ch):Holds β' ow' w' c' (ch.ren ρ):=by
 cases ch with
 | cells e cs =>
  obtain ⟨h0,h1,h2,arr,h3,h4⟩:=h
  refine ⟨by rw [hnil];exact h0,by rw [hbase];exact h1,by rw [hblk];exact (ho _).2 h2,arr,by rw [hblk,hh _ h2];exact h3,?_⟩
  rw [bg.ren]
  exact bg.congr (p:=p) hβ hp h4
 | vec e sz n f =>
  have hcap:(β' c').cap=(β c).cap:=by rcases hcap with h |h;exact h.1;cases h
  simp only [Chunk.ren,Holds] at h ⊢
  rw [hnil,hblk,hbase,hcap]
  by_cases hn':(β c).nil=true
  ·rw [if_pos hn'] at h ⊢;exact h
  ·rw [if_neg hn'] at h ⊢
   obtain ⟨h1,h2,h3,h4,arr,h5,h6⟩:=h
   exact ⟨h1,(ho _).2 h2,h3,h4,arr,by rw [hh _ h2];exact h5,h6⟩
 | ro sz n f=>cases hro
 | ext A=>cases hro
 | abs A =>
  obtain ⟨h0,h1,h2⟩:=h
  have hsub:subs (β' c')=subs (β c):=by
   rcases hcap with h |h
   ·funext j
    cases j
    ·exact h.1
    ·simp only [subs,h.2]
   ·cases h
  refine ⟨by rw [hnil];exact h0,by rw [hbase];exact h1,?_⟩
  rw [hblk,hsub]
  exact A.loc (fun k hk=>hh k hk) (fun k=>ho k) h2
end Go.Sx
