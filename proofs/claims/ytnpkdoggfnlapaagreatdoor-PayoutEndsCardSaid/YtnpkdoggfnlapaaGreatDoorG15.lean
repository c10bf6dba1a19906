/- Parts Ub Ug Uh Hh Hi Hj. -/
import Derived.Test.YtnpkdoggfnlapaaGreatDoorG13
import Derived.Test.YtnpkdoggfnlapaaGreatDoorG07
import Derived.Test.YtnpkdoggfnlapaaGreatDoorG14
set_option linter.unusedSimpArgs false
set_option linter.unusedVariables false
namespace Go.Proofs.YtnpkdoggfnlapaaGreatDoor
set_option maxRecDepth 100000
open Go.Sx
structure aB where
 coins:List (Pt×bF)
 steps:List Stp
 total:Int
def aB.mem (S:aB):Mem:=[(0,.cells 131 [.map 1,.slc 2 21 0 S.steps.length,.raw (.int .i64 S.total)]),(1,.abs (Bw Pt.v bF.v S.coins)),(2,.vec 236 21 S.steps.length fun i=>(S.steps.getD i default).cells)]
def dU (S:aB):mQ:=vB S.mem True
theorem aB.opens {P:Program} {C:Ctx} {cd:Code} {slots:List (Option XV)} {mem:Mem} {nx:Nat} {Q:Exit→St→Prop} (S:aB) (c:Nat) (hc:mem.get c=some (.abs (dU S)))
  (h:av P C cd ⟨slots,(c,.cells 131 [.map (nx + 1),.slc (nx + 2) 21 0 S.steps.length,.raw (.int .i64 S.total)])::(nx + 1,.abs (Bw Pt.v bF.v S.coins))::(nx + 2,.vec 236 21 S.steps.length fun i=>(S.steps.getD i default).cells)::mem.del c,nx + 3⟩ Q) :
  av P C cd ⟨slots,mem,nx⟩ Q :=
 av.opens (M:=S.mem) (m:=3) (inv:=True) (c:=c) hc rfl fun _=>h
theorem aB.shuts {C:Ctx} {slots:List (Option XV)} {mem:Mem} {nx:Nat} (S:aB) (c:Nat) {i1 i2:Nat} {m n:Nat} {total:Int} {f:Nat→List Value}
  (k0:mem.get c=some (.cells 131 [.map i1,.slc i2 21 0 m,.raw (.int .i64 total)])) (k1:mem.get i1=some (.abs (Bw Pt.v bF.v S.coins))) (k2:mem.get i2=some (.vec 236 21 n f))
  (hids:(Nat.beq c i1 || Nat.beq c i2 || Nat.beq i1 i2)=false) (hm:m=S.steps.length) (ht:total=S.total) (hle:S.steps.length≤n) (hf:∀ i,i<S.steps.length→f i=(S.steps.getD i default).cells) :
  aN C ⟨slots,mem,nx⟩ ⟨slots,(c,.abs (dU S))::mem.mD [c,i1,i2],nx⟩:=by
 subst hm ht
 exact aN.Ki (S:=⟨slots,mem,nx⟩) (M:=S.mem) (inv:=True) hids trivial rfl rfl rfl rfl k0 k1 k2 rfl ⟨rfl,rfl⟩ rfl ⟨rfl,rfl,hle,hf⟩
theorem aB.ends {C:Ctx} {T:aU} {rs:List ResultVar} {X X':XV} {e:Exit} {slots:List (Option XV)} {mem:Mem} {nx:Nat} {S0:aB} (S:aB) {i1 i2:Nat} {m n:Nat} {total:Int} {f:Nat→List Value} (he:e = .normal∨e = .ret)
  (k0:mem.get 0=some (.cells 131 [.map i1,.slc i2 21 0 m,.raw (.int .i64 total)])) (k1:mem.get i1=some (.abs (Bw Pt.v bF.v S.coins))) (k2:mem.get i2=some (.vec 236 21 n f))
  (hids:(Nat.beq 0 i1 || Nat.beq 0 i2 || Nat.beq i1 i2)=false)
  (hr:tK T ⟨slots,(0,.abs (dU S))::mem.mD [0,i1,i2],nx⟩ rs=some X') (hX:X'=X) (hS:S=S0) (hm:m=S.steps.length) (ht:total=S.total) (hle:S.steps.length≤n) (hf:∀ i,i<S.steps.length→f i=(S.steps.getD i default).cells) :
  Sx.Ends C T rs 1 1 ⟨X,[(0,.abs (dU S0))],none⟩ e ⟨slots,mem,nx⟩:=by
 subst hX hS
 refine ⟨he,_,aB.shuts S 0 k0 k1 k2 hids hm ht hle hf,hr,fun i ch h => ?_,fun i ch h=>by cases h⟩
 simp only [Mem.get,aL] at h
 by_cases hk:0=i
 ·subst hk
  simp only [decide_true,cond_true,Option.some.injEq] at h
  exact ⟨by omega,by rw [← h];rfl⟩
 ·simp [hk] at h
abbrev Pt.cv (p:Pt):CV := .agg (p.cells.map .raw)
abbrev bF.cv (p:bF):CV := .agg (p.cells.map .raw)
def aB.put (S:aB) (p:Pt) (c:bF):aB:={ S with coins:=jJ S.coins p c,total:=IntKind.i64.wrap (S.total + c.amt.toInt) }
theorem rY:Tryz.prog.underlying 128=some (.map 65 61):=Tryz.underlying128
set_option maxRecDepth 100000 in
theorem SI (S:aB) (p:Pt) (c:bF) {M:Mem} {c0 d:Nat} (hM:M.get c0=some (.abs (dU S))) (hd:Nat.beq d c0=false):aC Tryz.prog 155 [.one (.ptr c0 0 0 0),p.cv,c.cv] M d { v := .tup [],upd:=[(c0,.abs (dU (S.put p c)))],wr:=[c0] } [c0]:=by
 refine nS Tryz.aA Tryz.func155 rfl [p.cv,c.cv] (.tup []) rfl rfl hM hd (fun C _ => ?_)
 refine aB.opens S 0 rfl ?_
 refine xI ?_
 (refine xB ?_)
 (refine wP _ _ (Qm YW rY rfl rfl p c rfl rfl rfl) ?_;refine xZ ?_)
 exact aB.ends (S.put p c) (.inl rfl) rfl rfl rfl rfl rfl rfl rfl rfl rfl (Nat.le_refl _) (fun _ _=>rfl)
def aB.take (S:aB) (p:Pt) (c:bF):aB:={ S with coins:=X9 S.coins p,total:=IntKind.i64.wrap (S.total - c.amt.toInt) }
theorem EN:∀ w:World,(zeroValue 61).run Tryz.prog w = .ok (bF.v EM) w:=fun w=>by kernel_rfl
def aB.get (S:aB) (p:Pt):bF:=(dS S.coins p).getD EM
def aB.has (S:aB) (p:Pt):Bool:=(dS S.coins p).isSome
set_option maxRecDepth 100000 in
theorem I9 (S:aB) (p:Pt) {M:Mem} {c0 d:Nat} (hM:M.get c0=some (.abs (dU S))) (hd:Nat.beq d c0=false):aC Tryz.prog 21 [.one (.ptr c0 0 0 0),p.cv] M d { v := .tup [(S.get p).cv,.one (.raw (.bool (S.has p)))],upd:=[(c0,.abs (dU S))],wr:=[c0] } [c0]:=by
 refine nS Tryz.aA Tryz.func21 rfl [p.cv] (.tup [(S.get p).cv,.one (.raw (.bool (S.has p)))]) rfl rfl hM hd (fun C _ => ?_)
 refine aB.opens S 0 rfl ?_
 refine xI ?_
 (refine xB ?_)
 (refine wP _ _ (EY (ok:=true) YW rY (z0:=EM) EN rfl rfl p rfl rfl) ?_;refine xZ ?_)
 exact aB.ends S (.inr rfl) rfl rfl rfl rfl rfl rfl rfl rfl rfl (Nat.le_refl _) (fun _ _=>rfl)
set_option maxRecDepth 100000 in
theorem RL (S:aB) {M:Mem} {c0 d:Nat} (hM:M.get c0=some (.abs (dU S))) (hd:Nat.beq d c0=false):aC Tryz.prog 25 [.one (.ptr c0 0 0 0)] M d { v:=XV.int .i64 S.coins.length,upd:=[(c0,.abs (dU S))],wr:=[c0] } [c0]:=by
 refine nS Tryz.aA Tryz.func25 rfl [] (XV.int .i64 S.coins.length) rfl rfl hM hd (fun C _ => ?_)
 refine aB.opens S 0 rfl ?_
 refine xI ?_
 (refine xB ?_)
 (refine wP _ _ (OX rY rfl rfl rfl) ?_;refine xZ ?_)
 exact aB.ends S (.inr rfl) rfl rfl rfl rfl rfl rfl rfl rfl rfl (Nat.le_refl _) (fun _ _=>rfl)
set_option maxRecDepth 100000 in
theorem DU (S:aB) {M:Mem} {c0 d:Nat} (hM:M.get c0=some (.abs (dU S))) (hd:Nat.beq d c0=false):aC Tryz.prog 23 [.one (.ptr c0 0 0 0)] M d { v:=XV.int .i64 S.total,upd:=[(c0,.abs (dU S))],wr:=[c0] } [c0]:=by
 refine nS Tryz.aA Tryz.func23 rfl [] (XV.int .i64 S.total) rfl rfl hM hd (fun C _ => ?_)
 refine aB.opens S 0 rfl ?_
 refine xI ?_
 (refine xB ?_)
 exact aB.ends S (.inr rfl) rfl rfl rfl rfl rfl rfl rfl rfl rfl (Nat.le_refl _) (fun _ _=>rfl)
def aB.empty:aB:=⟨[],[],0⟩
theorem aB.Rq {C:Ctx} {T:aU} {rs:List ResultVar} {X:XV} {e:Exit} {slots:List (Option XV)} {mem:Mem} {nx n0:Nat} (l:List (Pt×bF)) (total:Int) (i0 i1:Nat) (he:e = .normal∨e = .ret) (hids:(Nat.beq i0 i1 || Nat.beq i0 nx || Nat.beq i1 nx)=false) (hn:n0≤i0)
  (k0:mem.get i0=some (.cells 131 [.map i1,.raw (.slice none 0 0),.raw (.int .i64 total)])) (k1:mem.get i1=some (.abs (Bw Pt.v bF.v l)))
  (hr:tK T ((St.sM ⟨slots,mem,nx⟩ i0 131 [.map i1,.raw (.slice none 0 0),.raw (.int .i64 total)] 1 236 21).shut i0 [i0,i1,nx] (aB.mem ⟨l,[],total⟩) True) rs=some X) :
  Sx.Ends C T rs 0 n0 ⟨X,[],some (i0,.abs (dU ⟨l,[],total⟩))⟩ e ⟨slots,mem,nx⟩:=by
 have hids':=hids
 simp only [Bool.or_eq_false_iff] at hids'
 obtain ⟨⟨h1,h2⟩,h3⟩:=hids'
 have h0:∀ a:Nat,Nat.beq a a=true:=fun a=>by rw [aL];simp
 refine ⟨he,_,(aN.sM (S:=⟨slots,mem,nx⟩) k0 rfl 236 21).trans (aN.Ki (M:=aB.mem ⟨l,[],total⟩) (b0 := .cells 131 [.map i1,.slc nx 21 0 0,.raw (.int .i64 total)]) (b1 := .abs (Bw Pt.v bF.v l)) (b2 := .vec 236 21 0 fun _=>[]) hids trivial rfl rfl rfl rfl ?_ ?_ ?_ rfl ⟨rfl,rfl⟩ rfl ⟨rfl,rfl,Nat.le_refl _,fun i hi=>by simp at hi⟩),hr,fun i ch h=>by simp [Mem.get] at h,fun i ch h => ?_⟩
 ·simp [St.sM,Mem.get]
 ·have h3':nx≠i1:=fun e=>by rw [e,h0] at h3;cases h3
  have h1':i1≠i0:=fun e=>by rw [e,h0] at h1;cases h1
  have:Nat.beq nx i1=false:=by rw [aL];simpa using h3'
  simp only [St.sM,Mem.get,h1,this,cond_false,Mem.eP,if_neg h1',k1]
 ·simp only [St.sM,Mem.get,h2,h0,cond_false,cond_true]
 ·cases h
  exact ⟨hn,by simp only [St.shut,Mem.get,h0,cond_true];rfl⟩
theorem Jv {M:Mem} {d:Nat}:aC Tryz.prog 19 [] M d { v:=XV.sv (.ptr d 0 0 0),upd:=[(d,.abs (dU aB.empty))] } []:=by
 refine Kq Tryz.aA Tryz.func19 rfl [] rfl 3 (fun C _ => ?_)
 refine xI ?_
 (refine xB ?_)
 (refine wP _ _ (LP Pt.v bF.v rfl) ?_;refine xZ ?_)
 exact aB.Rq [] 0 3 1 (.inr rfl) rfl (by decide) rfl rfl rfl
theorem MQ (l:List Stp) (s:Stp) (i:Nat) (hi:i<l.length + 1):tT (fun i=>(l.getD i default).cells) l.length s.cells i=((l++[s]).getD i default).cells:=by
 have e:Nat.blt i l.length=decide (i<l.length):=by
  by_cases h:i<l.length
  ·rw [decide_eq_true h];simpa using h
  ·rw [decide_eq_false h]
   cases hb:Nat.blt i l.length with
   | false=>rfl
   | true=>exact absurd (by simpa using hb) h
 simp only [tT,e]
 by_cases h:i<l.length
 ·simp [h,List.getD_eq_getElem?_getD,List.getElem?_append_left h]
 ·have h':i=l.length:=by omega
  simp [h',List.getD_eq_getElem?_getD]
def aB.okB (S:aB) (p:Pt) (c:bF):Bool := !(decide (p.no.toInt<0)) && !(decide (p.no.toInt > 255)) && !(decide (c.amt.toInt<1)) && !(S.has p) && iH S.total c.amt.toInt (IntKind.i64.wrap (S.total + c.amt.toInt))
def aB.add1 (S:aB) (p:Pt) (c:bF):aB:={ S.put p c with steps:=S.steps++[⟨p,c,true⟩] }
def aB.add (S:aB) (p:Pt) (c:bF):aB:=if S.okB p c=true then S.add1 p c else S
set_option maxRecDepth 100000 in
theorem Qi (S:aB) (p:Pt) (c:bF) (hlen:S.steps.length<1000000) {M:Mem} {c0 d:Nat} (hM:M.get c0=some (.abs (dU S))) (hd:Nat.beq d c0=false):aC Tryz.prog 99 [.one (.ptr c0 0 0 0),p.cv,c.cv] M d { v:=XV.bool (S.okB p c),upd:=[(c0,.abs (dU (S.add p c)))],wr:=[c0] } [c0]:=by
 refine nS Tryz.aA Tryz.func99 rfl [p.cv,c.cv] (XV.bool (S.okB p c)) rfl rfl hM hd (fun C _ => ?_)
 refine aB.opens S 0 rfl ?_
 refine xK 5 ?_
 refine wC (fun h1 => ?_) (fun h1 => ?_)
 ·(refine xG ?_)
  refine wD <| aV (aB.ends S (.inr rfl) rfl rfl rfl rfl rfl ?_ ?_ rfl rfl (Nat.le_refl _) (fun _ _=>rfl))
  ·simp [aB.okB,h1]
  ·simp [aB.add,aB.okB,h1]
 (refine xG ?_)
 refine wC (fun h2 => ?_) (fun h2 => ?_)
 ·(refine xG ?_)
  refine wD <| aV (aB.ends S (.inr rfl) rfl rfl rfl rfl rfl ?_ ?_ rfl rfl (Nat.le_refl _) (fun _ _=>rfl))
  ·simp [aB.okB,h2]
  ·simp [aB.add,aB.okB,h2]
 (refine xG ?_)
 refine wC (fun h3 => ?_) (fun h3 => ?_)
 ·(refine xG ?_)
  refine wD <| aV (aB.ends S (.inr rfl) rfl rfl rfl rfl rfl ?_ ?_ rfl rfl (Nat.le_refl _) (fun _ _=>rfl))
  ·simp [aB.okB,h3]
  ·simp [aB.add,aB.okB,h3]
 (refine xG ?_)
 (refine wP _ _ (EY (ok:=true) YW rY (z0:=EM) EN rfl rfl p rfl rfl) ?_;refine xZ ?_)
 refine xC rfl Tryz.func154 rfl (BA _ _ _ _) ?_
 refine wC (fun h4 => ?_) (fun h4 => ?_)
 ·(refine xG ?_)
  refine wD <| aV (aB.ends S (.inr rfl) rfl rfl rfl rfl rfl ?_ ?_ rfl rfl (Nat.le_refl _) (fun _ _=>rfl))
  ·simp [aB.okB,aB.has,h4]
  ·simp [aB.add,aB.okB,aB.has,h4]
 (refine xG ?_)
 refine wC (fun h5 => ?_) (fun h5 => ?_)
 ·(refine xG ?_)
  simp only [Bool.not_eq_true'] at h5
  refine wD <| aV (aB.ends S (.inr rfl) rfl rfl rfl rfl rfl ?_ ?_ rfl rfl (Nat.le_refl _) (fun _ _=>rfl))
  ·simp [aB.okB,h5]
  ·simp [aB.add,aB.okB,h5]
 (refine xG ?_)
 simp only [Bool.not_eq_false'] at h5
 have hok:S.okB p c=true:=by simp [aB.okB,aB.has,h1,h2,h3,h4,h5]
 refine wD <| ak (av.ent (aB.shuts S 0 rfl rfl rfl rfl rfl rfl (Nat.le_refl _) (fun _ _=>rfl)) ?_)
 refine xK 1 ?_
 refine xC rfl Tryz.func155 rfl (SI S p c rfl rfl) ?_
 have hA:(S.put p c).steps.length + 1≤maxLen:=by
  show S.steps.length + 1≤maxLen
  simp only [maxLen];omega
 have hB:((S.put p c).steps.length + 1) * 56≤140737488355328:=by
  show (S.steps.length + 1) * 56≤140737488355328
  omega
 refine wD <| ak (aB.opens (S.put p c) 0 rfl ?_)
 refine xI ?_
 (refine xB ?_)
 (refine wP _ _ (vH Tryz.aA rfl rfl rfl rfl (Stp.cells ⟨p,c,true⟩) rfl rfl rfl (Nat.le_refl _) rfl rfl rfl rfl rfl hA hB) ?_;refine xZ ?_)
 refine aB.ends (S.add1 p c) (.inr rfl) rfl rfl rfl rfl rfl ?_ ?_ ?_ rfl ?_ ?_
 ·rw [hok]
 ·rw [aB.add,if_pos hok]
 ·simp [aB.add1,aB.put]
 ·simp [aB.add1,aB.put]
 ·intro i hi
  exact MQ S.steps ⟨p,c,true⟩ i (by simpa [aB.add1] using hi)
set_option maxRecDepth 100000
open Go.Sx
abbrev H8.cv (h:H8):CV := .agg (h.cells.map .raw)
def H8.l (h:H8):List UInt8:=[h.b0,h.b1,h.b2,h.b3,h.b4,h.b5,h.b6,h.b7]
def Jl:List UInt8→List UInt8→Bool
 | x::xs,y::ys=>if x=y then Jl xs ys else decide (x<y)
 | _,_=>false
def WA (a b:H8) (i:Nat):St:=⟨[none,none,some (XV.sv (.ptr 0 0 0 0)),some (XV.sv (.ptr 1 0 0 0)),some (XV.bool false),some (XV.int .i64 i)]++List.replicate 18 none,[(0,.cells 29 (a.cells.map .raw)),(1,.cells 29 (b.cells.map .raw))],2⟩
theorem VZ {x y:UInt8}:((x.toNat:Int) != (y.toNat:Int)) = !decide (x=y):=by
 by_cases h:x=y
 ·subst h;simp
 ·have:(x.toNat:Int)≠(y.toNat:Int):=fun e=>h (UInt8.toNat_inj.1 (by omega))
  simp [h,this]
set_option maxHeartbeats 2000000 in
set_option maxRecDepth 100000 in
theorem He (a b:H8) (M:Mem) (d:Nat):aC Tryz.prog 216 [a.cv,b.cv] M d { v:=XV.bool (Jl a.l b.l) } []:=by
 refine DF Tryz.aA Tryz.func216 rfl [a.cv,b.cv] _ rfl rfl (fun C hC => ?_) M d
 have hC0:∀ i,i<C.n0→([0,1]:List Nat)[i]? = some i:=fun i hi=>by rw [hC] at hi;omega
 have hC1:C.n0≤2:=by rw [hC];decide
 refine xK 1 ?_
 refine wD <| ak <| av.seq ?_
 refine xK 1 ?_
 refine wD <| ak <| av.block ?_
 refine av.loop (α:={ i:Nat // i≤8∧Jl a.l b.l=Jl (a.l.drop i) (b.l.drop i) }) (fun i=>WA a b i.1) (fun i=>8 - i.1) ⟨0,by decide,rfl⟩ ?_ ?_
 ·exact aN.ren [0,1] (by decide) rfl hC0 hC1 rfl ⟨rfl,rfl,rfl,rfl,trivial⟩ ⟨⟨_,rfl,rfl,rfl⟩,⟨_,rfl,rfl,rfl⟩,trivial⟩
 rintro ⟨i,hi,hlt⟩
 dsimp only
 have hcases:i=8∨i=0∨i=1∨i=2∨i=3∨i=4∨i=5∨i=6∨i=7:=by omega
 rcases hcases with rfl |h
 ·refine xK 1 ?_
  refine wD <| bW <| aS <| aI <| ak <| xI ?_
  (refine xB ?_)
  refine Ends.plain (.inr rfl) rfl ?_
  rw [hlt]
  rfl
 rcases h with rfl |rfl |rfl |rfl |rfl |rfl |rfl |rfl
 all_goals
  refine xK 1 ?_
  refine wD <| ak <| av.seq <| av.block <| xI ?_
  (refine xB ?_)
  refine wC (fun h1 => ?_) (fun h1 => ?_)
  ·(refine xG ?_)
   refine wD <| aQ <| aV <| fq <| aQ <| aV <| Ends.plain (.inr rfl) rfl ?_
   rw [hlt]
   simp only [VZ,Bool.not_eq_true',decide_eq_false_iff_not] at h1
   simp [H8.l,Jl,h1,UInt8.lt_iff_toNat_lt]
  ·(refine xG ?_)
   refine wD <| aJ <| ak <| xI ?_
   (refine xB ?_)
   simp only [VZ,Bool.not_eq_false',decide_eq_true_eq] at h1
   refine wD <| aP ?_
   first |
    exact ⟨⟨1,by decide,by rw [hlt];simp [H8.l,Jl,h1]⟩,by simp,aN.ren [0,1] (by decide) rfl hC0 hC1 rfl ⟨rfl,rfl,rfl,rfl,trivial⟩ ⟨⟨_,rfl,rfl,rfl⟩,⟨_,rfl,rfl,rfl⟩,trivial⟩⟩ |
    exact ⟨⟨2,by decide,by rw [hlt];simp [H8.l,Jl,h1]⟩,by simp,aN.ren [0,1] (by decide) rfl hC0 hC1 rfl ⟨rfl,rfl,rfl,rfl,trivial⟩ ⟨⟨_,rfl,rfl,rfl⟩,⟨_,rfl,rfl,rfl⟩,trivial⟩⟩ |
    exact ⟨⟨3,by decide,by rw [hlt];simp [H8.l,Jl,h1]⟩,by simp,aN.ren [0,1] (by decide) rfl hC0 hC1 rfl ⟨rfl,rfl,rfl,rfl,trivial⟩ ⟨⟨_,rfl,rfl,rfl⟩,⟨_,rfl,rfl,rfl⟩,trivial⟩⟩ |
    exact ⟨⟨4,by decide,by rw [hlt];simp [H8.l,Jl,h1]⟩,by simp,aN.ren [0,1] (by decide) rfl hC0 hC1 rfl ⟨rfl,rfl,rfl,rfl,trivial⟩ ⟨⟨_,rfl,rfl,rfl⟩,⟨_,rfl,rfl,rfl⟩,trivial⟩⟩ |
    exact ⟨⟨5,by decide,by rw [hlt];simp [H8.l,Jl,h1]⟩,by simp,aN.ren [0,1] (by decide) rfl hC0 hC1 rfl ⟨rfl,rfl,rfl,rfl,trivial⟩ ⟨⟨_,rfl,rfl,rfl⟩,⟨_,rfl,rfl,rfl⟩,trivial⟩⟩ |
    exact ⟨⟨6,by decide,by rw [hlt];simp [H8.l,Jl,h1]⟩,by simp,aN.ren [0,1] (by decide) rfl hC0 hC1 rfl ⟨rfl,rfl,rfl,rfl,trivial⟩ ⟨⟨_,rfl,rfl,rfl⟩,⟨_,rfl,rfl,rfl⟩,trivial⟩⟩ |
    exact ⟨⟨7,by decide,by rw [hlt];simp [H8.l,Jl,h1]⟩,by simp,aN.ren [0,1] (by decide) rfl hC0 hC1 rfl ⟨rfl,rfl,rfl,rfl,trivial⟩ ⟨⟨_,rfl,rfl,rfl⟩,⟨_,rfl,rfl,rfl⟩,trivial⟩⟩ |
    exact ⟨⟨8,by decide,by rw [hlt];simp [H8.l,Jl,h1]⟩,by simp,aN.ren [0,1] (by decide) rfl hC0 hC1 rfl ⟨rfl,rfl,rfl,rfl,trivial⟩ ⟨⟨_,rfl,rfl,rfl⟩,⟨_,rfl,rfl,rfl⟩,trivial⟩⟩
set_option maxRecDepth 100000
open Go.Sx
theorem mY (x:UInt8):(Kd.int .u8).fits (u8 x):=⟨_,rfl,zl x⟩
theorem Ws (x:Int64):(Kd.int .i64).fits (i64 x):=⟨_,rfl,RD x⟩
theorem YK (b:Bool):Kd.bool.fits (.bool b):=⟨b,rfl⟩
def H8.v (h:H8):Value := .agg h.cells.toArray
theorem H8.inj (a b:H8) (h:a.v=b.v):a=b:=by
 have h:a.cells=b.cells:=by
  have:=congrArg (fun v=>v.cells.toList) h
  simpa [H8.v,Value.cells] using this
 obtain ⟨_,_,_,_,_,_,_,_⟩:=a
 obtain ⟨_,_,_,_,_,_,_,_⟩:=b
 simp only [H8.cells,List.cons.injEq] at h
 obtain ⟨h0,h1,h2,h3,h4,h5,h6,h7,_⟩:=h
 rw [dN h0,dN h1,dN h2,dN h3,dN h4,dN h5,dN h6,dN h7]
theorem QU {a b:Bool} (h:Value.bool a=Value.bool b):a=b:=by cases h;rfl
theorem bF.inj (a b:bF) (h:a.v=b.v):a=b:=by
 have h:a.cells=b.cells:=by
  have:=congrArg (fun v=>v.cells.toList) h
  simpa [bF.v,Value.cells] using this
 obtain ⟨⟨_,_,_,_,_,_,_,_⟩,_,_,_⟩:=a
 obtain ⟨⟨_,_,_,_,_,_,_,_⟩,_,_,_⟩:=b
 simp only [bF.cells,List.cons.injEq] at h
 obtain ⟨h0,h1,h2,h3,h4,h5,h6,h7,h8,h9,h10,_⟩:=h
 rw [dN h0,dN h1,dN h2,dN h3,dN h4,dN h5,dN h6,dN h7,Bt h8,Bt h9,QU h10]
def gV:List Kd:=[.int .u8,.int .u8,.int .u8,.int .u8,.int .u8,.int .u8,.int .u8,.int .u8]
def zG:List Kd:=gV++[.int .i64,.int .i64,.bool]
theorem uq (h:H8):Fits gV h.cells :=
 ⟨_,_,rfl,mY _,_,_,rfl,mY _,_,_,rfl,mY _,_,_,rfl,mY _,_,_,rfl,mY _,_,_,rfl,mY _,_,_,rfl,mY _,_,_,rfl,mY _,rfl⟩
theorem Ou (h:bF):Fits zG h.cells :=
 ⟨_,_,rfl,mY _,_,_,rfl,mY _,_,_,rfl,mY _,_,_,rfl,mY _,_,_,rfl,mY _,_,_,rfl,mY _,_,_,rfl,mY _,_,_,rfl,mY _,_,_,rfl,Ws _,_,_,rfl,Ws _,_,_,rfl,YK _,rfl⟩
theorem RB:(29:TypeId)<Tryz.prog.types.size:=of_decide_eq_true (by kernel_rfl)
theorem EU:Tryz.prog.keyTypeAt 3 29=true:=by kernel_rfl
theorem Lm:Tryz.prog.keyTypeAt 8 29=true:=by kernel_rfl
theorem OM:Tryz.prog.keyType 29=true:=by kernel_rfl
theorem RA:WideMaps.KeyLaw Tryz.prog 29:=deep_law_laid laid (m:=3) (by omega) RB EU (by rw [Tryz.underlying29])
theorem nW:8≤Tryz.prog.types.size + 1:=of_decide_eq_true (by kernel_rfl)
theorem Ll:gV.length=Tryz.prog.cellsOf 29:=by kernel_rfl
theorem Rz (h:H8):∃ l,keyOf Tryz.prog 29 h.v=some l:=nJ Tryz.aA (f:=8) (ks:=gV) rfl Lm OM nW (by rw [Tryz.underlying29]) (uq h) Ll
theorem GI:Tryz.prog.eqGuardType Tryz.prog.depth 29=false:=by kernel_rfl
theorem pV:Ie Tryz.prog 29 H8.v:=Ie.of (m:=3) RA (by omega) EU (by rw [Tryz.underlying29]) Rz H8.inj GI (fun a=>⟨_,rfl⟩)
theorem Mf:Tryz.prog.eqGuardType Tryz.prog.depth 65=false:=by kernel_rfl
theorem Zd:Ie Tryz.prog 65 Pt.v:=Ie.of (m:=3) SE (by omega) NM (by rw [Tryz.underlying65]) SC Pt.inj Mf (fun a=>⟨_,rfl⟩)
theorem Ra:(61:TypeId)<Tryz.prog.types.size:=of_decide_eq_true (by kernel_rfl)
theorem zH:Tryz.prog.keyTypeAt 8 61=true:=by kernel_rfl
theorem Ov:Tryz.prog.keyType 61=true:=by kernel_rfl
theorem Q9:WideMaps.KeyLaw Tryz.prog 61:=deep_law_laid laid (m:=8) (by omega) Ra zH (by rw [Tryz.underlying61])
theorem KY:zG.length=Tryz.prog.cellsOf 61:=by kernel_rfl
theorem Q8 (h:bF):∃ l,keyOf Tryz.prog 61 h.v=some l:=nJ Tryz.aA (f:=8) (ks:=zG) rfl zH Ov nW (by rw [Tryz.underlying61]) (Ou h) KY
theorem Gw:Tryz.prog.eqGuardType Tryz.prog.depth 61=false:=by kernel_rfl
theorem XR:Ie Tryz.prog 61 bF.v:=Ie.of (m:=8) Q9 (by omega) zH (by rw [Tryz.underlying61]) Q8 bF.inj Gw (fun a=>⟨_,rfl⟩)
def ig (a b:Pt):Bool:=Jl a.tx.l b.tx.l || (decide (a.tx=b.tx) && decide (a.no.toInt<b.no.toInt))
set_option maxRecDepth 100000 in
theorem Cn (a b:Pt) (M:Mem) (d:Nat):aC Tryz.prog 193 [a.cv,b.cv] M d { v:=XV.bool (ig a b) } []:=by
 refine DF Tryz.aA Tryz.func193 rfl [a.cv,b.cv] _ rfl rfl (fun C hC => ?_) M d
 refine xI ?_
 (refine xB ?_)
 refine xC rfl Tryz.func216 rfl (He a.tx b.tx _ _) ?_
 refine wC (fun h1 => ?_) (fun h1 => ?_)
 ·(refine xG ?_)
  refine Ends.plain (.inr rfl) rfl ?_
  simp [ig,h1]
 (refine xG ?_)
 (refine wP _ _ (uW pV rfl a.tx b.tx rfl rfl) ?_;refine xZ ?_)
 refine wC (fun h2 => ?_) (fun h2 => ?_)
 ·(refine xG ?_)
  refine Ends.plain (.inr rfl) rfl ?_
  simp only [decide_eq_true_eq] at h2
  unfold ig
  rw [h1]
  simp [h2]
 ·(refine xG ?_)
  refine Ends.plain (.inr rfl) rfl ?_
  simp only [decide_eq_false_iff_not] at h2
  unfold ig
  rw [h1]
  simp [h2]
set_option maxRecDepth 100000
open Go.Sx
def Tg (bss:List (List UInt8)):List (Nat×(Nat→List Value)):=bss.map fun b=>(b.length,bI b)
theorem eD {M:Mem} {rd:List Nat} {c e:Nat} {cs:List SV} (bss:List (List UInt8)) (hm:M.get c=some (.cells e cs)) (hrd:gI c rd=true) (hn:cs.length=bss.length) (ha:uh M rd 1 cs (Tg bss)):bC M rd (.one (.slc c 1 0 bss.length)) (CZ bss):=by
 refine OV (Tg bss) hm hrd hn ha (fun i x hx => ?_)
 rw [Tg,List.getElem?_map] at hx
 cases hb:bss[i]? with
 | none=>rw [hb] at hx;cases hx
 | some b =>
  rw [hb] at hx
  simp only [Option.map_some,Option.some.injEq] at hx
  subst hx
  simp [List.getD_eq_getElem?_getD,hb]
theorem aF {M:Mem} {rd:List Nat} {c e sz n lo k k':Nat} {f g:Nat→List Value} (hkk:k'=k) (hm:M.get c=some (.vec e sz n f)) (hrd:gI c rd=true) (hk:lo + k≤n) (hg:∀ i,i<k→g i=f (lo + i)):bC M rd (.one (.slc c sz lo k')) (.row sz k g):=by
 subst hkk;exact jN hm hrd hk hg
theorem H8.jg (h:H8):h.l.length=8:=rfl
theorem qQ (p:UInt8) (a:List UInt8) (h:a.length≤900000000):Short (jI p [a]):=by
 show (lY p [a] 1).length≤_
 rw [dR]
 show [p].length + 4 + a.length≤_
 simp;omega
theorem MK (p:UInt8) (a b:List UInt8) (h:a.length + b.length≤900000000):Short (jI p [a,b]):=by
 show (lY p [a,b] 2).length≤_
 rw [dR,dR]
 show [p].length + 4 + a.length + 4 + b.length≤_
 simp;omega
def yh (h:H8):H8:=Ea 108 [h.l]
def Ch (a b:H8):H8:=Ea 109 [a.l,b.l]
def nM (h:H8):H8:=Ea 112 [h.l]
abbrev H8.x (h:H8):CV := .agg (h.cells.map .raw)
def mO (h:H8):XV := .cv h.x
theorem SG (p:UInt8) (a b:H8):Reads Tryz.prog 180 [.plain (.one (.raw (u8 p))),.plain a.x,.plain b.x] [bJ] (mO (Ea p [a.l,b.l])):=by
 refine Reads.of Tryz.aA Tryz.func180 rfl _ _ _ rfl rfl (fun C hC => ?_)
 (replace hC:C.n0=4:=hC;change av _ _ _ ⟨_,_,4⟩ _)
 refine xI ?_
 (refine xB ?_)
 (refine wP _ _ (dQ Tryz.aA rfl rfl rfl) ?_;refine xZ ?_)
 refine xC rfl Tryz.func146 rfl ((zO p [a.l,b.l] (MK _ _ _ (by simp [H8.jg]))).at [10,4,5,3] ⟨ah rfl,eD [a.l,b.l] rfl rfl rfl ⟨eX rfl rfl (fun _ _=>rfl) rfl,eX rfl rfl (fun _ _=>rfl) rfl,trivial⟩,trivial⟩ ⟨bD (c:=3) rfl rfl,trivial⟩) ?_
 exact wD (Ends.plain (.inr rfl) rfl rfl)
theorem Dq (p:UInt8) (a b:H8):Reads Tryz.prog 182 [.plain (.one (.raw (u8 p))),.plain a.x,.plain b.x] [] (mO (Ea p [a.l,b.l])):=by
 refine Reads.of Tryz.aA Tryz.func182 rfl _ _ _ rfl rfl (fun C hC => ?_)
 (replace hC:C.n0=3:=hC;change av _ _ _ ⟨_,_,3⟩ _)
 refine xI ?_
 (refine xB ?_)
 (refine wP _ _ (dQ Tryz.aA rfl rfl rfl) ?_;refine xZ ?_)
 refine xC rfl Tryz.func45 rfl ((jd p [a.l,b.l] (MK _ _ _ (by simp [H8.jg]))).at [9,3,4] ⟨ah rfl,eD [a.l,b.l] rfl rfl rfl ⟨eX rfl rfl (fun _ _=>rfl) rfl,eX rfl rfl (fun _ _=>rfl) rfl,trivial⟩,trivial⟩ trivial) ?_
 exact wD (Ends.plain (.inr rfl) rfl rfl)
theorem RI (a:H8):Reads Tryz.prog 234 [.plain a.x] [bJ] (mO (yh a)):=by
 refine Reads.of Tryz.aA Tryz.func234 rfl _ _ _ rfl rfl (fun C hC => ?_)
 (replace hC:C.n0=2:=hC;change av _ _ _ ⟨_,_,2⟩ _)
 refine xI ?_
 (refine xB ?_)
 (refine wP _ _ (dQ Tryz.aA rfl rfl rfl) ?_;refine xZ ?_)
 refine xC rfl Tryz.func146 rfl ((zO 108 [a.l] (qQ _ _ (by simp [H8.jg]))).at [5,2,1] ⟨ah rfl,eD [a.l] rfl rfl rfl ⟨eX rfl rfl (fun _ _=>rfl) rfl,trivial⟩,trivial⟩ ⟨bD (c:=1) rfl rfl,trivial⟩) ?_
 exact wD (Ends.plain (.inr rfl) rfl rfl)
theorem Jq (a:H8):Reads Tryz.prog 237 [.plain a.x] [bJ] (mO (nM a)):=by
 refine Reads.of Tryz.aA Tryz.func237 rfl _ _ _ rfl rfl (fun C hC => ?_)
 (replace hC:C.n0=2:=hC;change av _ _ _ ⟨_,_,2⟩ _)
 refine xI ?_
 (refine xB ?_)
 (refine wP _ _ (dQ Tryz.aA rfl rfl rfl) ?_;refine xZ ?_)
 refine xC rfl Tryz.func146 rfl ((zO 112 [a.l] (qQ _ _ (by simp [H8.jg]))).at [5,2,1] ⟨ah rfl,eD [a.l] rfl rfl rfl ⟨eX rfl rfl (fun _ _=>rfl) rfl,trivial⟩,trivial⟩ ⟨bD (c:=1) rfl rfl,trivial⟩) ?_
 exact wD (Ends.plain (.inr rfl) rfl rfl)
theorem FM (a:H8):Reads Tryz.prog 200 [.plain a.x] [] (mO (nM a)):=by
 refine Reads.of Tryz.aA Tryz.func200 rfl _ _ _ rfl rfl (fun C hC => ?_)
 (replace hC:C.n0=1:=hC;change av _ _ _ ⟨_,_,1⟩ _)
 refine xI ?_
 (refine xB ?_)
 (refine wP _ _ (dQ Tryz.aA rfl rfl rfl) ?_;refine xZ ?_)
 refine xC rfl Tryz.func45 rfl ((jd 112 [a.l] (qQ _ _ (by simp [H8.jg]))).at [4,1] ⟨ah rfl,eD [a.l] rfl rfl rfl ⟨eX rfl rfl (fun _ _=>rfl) rfl,trivial⟩,trivial⟩ trivial) ?_
 exact wD (Ends.plain (.inr rfl) rfl rfl)
theorem Jd (a b:H8):Reads Tryz.prog 235 [.plain a.x,.plain b.x] [bJ] (mO (Ch a b)):=by
 refine Reads.of Tryz.aA Tryz.func235 rfl _ _ _ rfl rfl (fun C hC => ?_)
 (replace hC:C.n0=3:=hC;change av _ _ _ ⟨_,_,3⟩ _)
 refine xI ?_
 (refine xB ?_)
 refine xC rfl Tryz.func180 rfl ((SG 109 a b).at [2] ⟨ah rfl,ah rfl,ah rfl,trivial⟩ ⟨bD (c:=2) rfl rfl,trivial⟩) ?_
 exact wD (Ends.plain (.inr rfl) rfl rfl)
theorem Yk {x0 x1 x2 x3:UInt8} {v0 v1 v2 v3:Value} (h0:v0=u8 x0) (h1:v1=u8 x1) (h2:v2=u8 x2) (h3:v3=u8 x3):∀ i,i<[x0,x1,x2,x3].length→bI [x0,x1,x2,x3] i=rD [v0,v1,v2,v3] 1 (0 + i):=by
 subst h0 h1 h2 h3
 intro i hi
 match i,hi with
 | 0,_=>rfl
 | 1,_=>rfl
 | 2,_=>rfl
 | 3,_=>rfl
def mZ (seed:H8) (idx i b:Int):H8:=Ea 115 [seed.l,[dn (IntKind.u8.wrap idx),dn (IntKind.u8.wrap i),dn (IntKind.u8.wrap b),0]]
theorem Du (seed:H8) (idx i b:Int):Reads Tryz.prog 198 [.plain seed.x,.plain (.one (.raw (.int .i64 idx))),.plain (.one (.raw (.int .i64 i))),.plain (.one (.raw (.int .i64 b)))] [] (mO (mZ seed idx i b)):=by
 refine Reads.of Tryz.aA Tryz.func198 rfl _ _ _ rfl rfl (fun C hC => ?_)
 (replace hC:C.n0=4:=hC;change av _ _ _ ⟨_,_,4⟩ _)
 refine xI ?_
 (refine xB ?_)
 (refine wP _ _ (dQ Tryz.aA rfl rfl rfl) ?_;refine xZ ?_)
 refine xC rfl Tryz.func45 rfl ((jd 115 [seed.l,[dn (IntKind.u8.wrap idx),dn (IntKind.u8.wrap i),dn (IntKind.u8.wrap b),0]] (MK _ _ _ (by simp [H8.jg]))).at [14,4,13] ⟨ah rfl,eD [seed.l,[dn (IntKind.u8.wrap idx),dn (IntKind.u8.wrap i),dn (IntKind.u8.wrap b),0]] rfl rfl rfl ⟨eX rfl rfl (fun _ _=>rfl) rfl,jN (lo:=0) rfl rfl (Nat.le_refl _) (Yk (dI _).symm (dI _).symm (dI _).symm rfl),trivial⟩,trivial⟩ trivial) ?_
 exact wD (Ends.plain (.inr rfl) rfl rfl)
set_option maxRecDepth 100000
open Go.Sx
def oh (m:H8) (i:Nat):Nat:=((m.l.getD (i / 8) 0).toNat / 2 ^ (i % 8)) % 2
theorem qp (m:H8) (i:Nat):oh m i=0∨oh m i=1:=by unfold oh;omega
theorem nC (n y:Nat):BitVec.ofInt n (y:Int)=BitVec.ofNat n y:=by
 apply BitVec.eq_of_toNat_eq
 rw [BitVec.toNat_ofInt,BitVec.toNat_ofNat]
 omega
theorem Uw (y:Nat):fA .and .u8 (y:Int) 1=((y % 2:Nat):Int):=by
 show IntKind.u8.wrap (((BitVec.ofInt 8 (y:Int) &&& BitVec.ofInt 8 ((1:Nat):Int)).toNat:Int))=_
 rw [nC,nC,BitVec.toNat_and,BitVec.toNat_ofNat,BitVec.toNat_ofNat,show 1 % 2 ^ 8=1 from rfl,Nat.and_one_is_mod,IntKind.wrap_u8]
 omega
theorem QG (y:Nat):fA .and .i64 (y:Int) 1=((y % 2:Nat):Int):=by
 show IntKind.i64.wrap (((BitVec.ofInt 64 (y:Int) &&& BitVec.ofInt 64 ((1:Nat):Int)).toNat:Int))=_
 rw [nC,nC,BitVec.toNat_and,BitVec.toNat_ofNat,BitVec.toNat_ofNat,show 1 % 2 ^ 64=1 from rfl,Nat.and_one_is_mod,IntKind.wrap_i64]
 omega
theorem Hz (k:IntKind) (y s:Nat) (hs:s≤k.bits):iN k (y:Int) (s:Int)=((y / 2 ^ s:Nat):Int):=by
 have e:min ((s:Int).toNat) k.bits=s:=by omega
 have h2:((2:Int) ^ s)=((2 ^ s:Nat):Int):=by rw [Int.natCast_pow];rfl
 rw [iN,e,h2,Int.fdiv_eq_ediv_of_nonneg _ (Int.natCast_nonneg _),Int.natCast_ediv]
theorem UC (m:H8) (i:Nat) (hi:i<64):Reads Tryz.prog 236 [.plain m.x,.plain (.one (.raw (.int .i64 i)))] [] (XV.int .i64 (oh m i)):=by
 refine Reads.of Tryz.aA Tryz.func236 rfl _ _ _ rfl rfl (fun C hC => ?_)
 (replace hC:C.n0=2:=hC;change av _ _ _ ⟨_,_,2⟩ _)
 refine xK 1 ?_
 refine wD <| ak <| av.ent (aN.Gj (c:=2) 1 8 (bI m.l) rfl rfl rfl (fun _ _=>rfl) (by decide) rfl (by rw [hC];decide)) <| xI ?_
 have q1:IntKind.i64.wrap (Int.tdiv (i:Int) 8)=((i / 8:Nat):Int):=by
  have:Int.tdiv (i:Int) 8=((i / 8:Nat):Int):=rfl
  rw [this];exact xW
 have q2:Int.tmod (i:Int) 8=((i % 8:Nat):Int):=rfl
 (refine xB ?_)
 simp only [q1]
 (repeat (refine wN ?_ ?_;exact xW;refine xG ?_))
 simp only [q2]
 (repeat (refine wN ?_ ?_;exact xW;refine xG ?_))
 refine wD (Ends.plain (.inr rfl) rfl ?_)
 have e:IntKind.i64.wrap (fA .and .u8 (iN .u8 ((m.l.getD (((i / 8:Nat):Int).toNat) 0).toNat:Int) ((i % 8:Nat):Int)) 1)=((oh m i:Nat):Int):=by
  have h8:i % 8≤IntKind.u8.bits:=Nat.le_of_lt (Nat.mod_lt _ (by decide))
  rw [Hz _ _ _ h8,Uw,Int.toNat_natCast,IntKind.wrap_i64]
  unfold oh
  omega
 exact congrArg (fun n:Int=>XV.int .i64 n) e
theorem Dj (m:H8) (i:Nat) (hi:i<64):Reads Tryz.prog 199 [.plain m.x,.plain (.one (.raw (.int .i64 i)))] [] (XV.int .i64 (oh m i)):=by
 refine Reads.of Tryz.aA Tryz.func199 rfl _ _ _ rfl rfl (fun C hC => ?_)
 (replace hC:C.n0=2:=hC;change av _ _ _ ⟨_,_,2⟩ _)
 refine xK 1 ?_
 refine wD <| ak <| av.ent (aN.Gj (c:=2) 1 8 (bI m.l) rfl rfl rfl (fun _ _=>rfl) (by decide) rfl (by rw [hC];decide)) <| xI ?_
 have q1:IntKind.i64.wrap (Int.tdiv (i:Int) 8)=((i / 8:Nat):Int):=by
  have:Int.tdiv (i:Int) 8=((i / 8:Nat):Int):=rfl
  rw [this];exact xW
 have q2:Int.tmod (i:Int) 8=((i % 8:Nat):Int):=rfl
 (refine xB ?_)
 simp only [q1]
 (repeat (refine wN ?_ ?_;exact xW;refine xG ?_))
 simp only [q2]
 (repeat (refine wN ?_ ?_;exact xW;refine xG ?_))
 refine wD (Ends.plain (.inr rfl) rfl ?_)
 have e:fA .and .i64 (iN .i64 (IntKind.i64.wrap ((m.l.getD (((i / 8:Nat):Int).toNat) 0).toNat:Int)) (IntKind.u64.wrap ((i % 8:Nat):Int))) 1=((oh m i:Nat):Int):=by
  have h8:i % 8≤IntKind.i64.bits:=Nat.le_trans (Nat.le_of_lt (Nat.mod_lt i (by decide:8 > 0))) (by decide)
  have hb:=(m.l.getD (i / 8) 0).toNat_lt
  have e1:IntKind.i64.wrap ((m.l.getD (i / 8) 0).toNat:Int)=((m.l.getD (i / 8) 0).toNat:Int):=xW
  have e2:IntKind.u64.wrap ((i % 8:Nat):Int)=((i % 8:Nat):Int):=xW
  rw [Int.toNat_natCast,e1,e2,Hz _ _ _ h8,QG]
  rfl
 exact congrArg (fun n:Int=>XV.int .i64 n) e
set_option maxRecDepth 100000
open Go.Sx
def dB:H8:=⟨0,0,0,0,0,0,0,0⟩
def bG (h:Nat→H8):Nat→List Value:=fun i=>(h i).cells
def ug (h:Nat→H8) (n:Nat):Nat→H8:=fun k=>if k<n then h k else dB
theorem Yr (w:Nat→H8) (i k:Nat) (h:H8):Af (bG w) i 0 h.cells k=bG (fun k=>if k=i then h else w k) k:=by
 by_cases hk:k=i
 ·subst hk;rw [wS (by rfl)];simp [bG]
 ·rw [iG hk];simp [bG,hk]
theorem DW (h:Nat→H8) (i k:Nat):(if k=i then h i else ug h i k)=ug h (i + 1) k:=by
 unfold ug
 by_cases hk:k=i
 ·subst hk;rw [if_pos rfl,if_pos (Nat.lt_succ_self k)]
 ·rw [if_neg hk]
  by_cases hk3:k<i
  ·rw [if_pos hk3,if_pos (by omega)]
  ·rw [if_neg hk3,if_neg (by omega)]
def MB (h:Nat→H8) (n:Nat):CV := .agg ((fZ (bG h) 0 n).map .raw)
def vw (seed:H8) (idx:Int) (m:H8) (i:Nat):H8:=mZ seed idx (i:Int) ((oh m i:Nat):Int)
def vD (seed:H8) (idx:Int) (m:H8) (i:Nat):H8:=nM (mZ seed idx (i:Int) ((1 - oh m i:Nat):Int))
def Xj (seed:H8) (idx:Int) (m:H8) (i:Nat):St :=
 ⟨[none,some (XV.int .i64 idx),none,some (XV.sv (.ptr 3 0 0 0)),none,some (XV.sv (.ptr 4 0 0 0)),some (XV.sv (.ptr 5 0 0 0)),some (XV.sv (.ptr 6 0 0 0)),some (XV.sv (.ptr 7 0 0 0)),some (XV.sv (.ptr 8 0 0 0)),some (XV.int .i64 i)]++List.replicate 26 none,
  [(3,.cells 29 (seed.cells.map .raw)),(4,.cells 29 (m.cells.map .raw)),(5,.cells 44 ((List.replicate 128 (u8 0)).map .raw)),(6,.cells 44 ((List.replicate 128 (u8 0)).map .raw)),(7,.vec 44 8 16 (bG (ug (vw seed idx m) i))),(8,.vec 44 8 16 (bG (ug (vD seed idx m) i)))],9⟩
set_option maxHeartbeats 4000000 in
theorem Kn (seed:H8) (idx:Int) (m:H8):Reads Tryz.prog 165 [.plain seed.x,.plain (.one (.raw (.int .i64 idx))),.plain m.x] [] (.tup [MB (vw seed idx m) 16,MB (vD seed idx m) 16]):=by
 refine Reads.of Tryz.aA Tryz.func165 rfl _ _ _ rfl (by simp only [XV.ok,List.all_cons,List.all_nil,Bool.and_true,Bool.and_eq_true];exact ⟨jy _ _,jy _ _⟩) (fun C hC => ?_)
 (replace hC:C.n0=3:=hC;change av _ _ _ ⟨_,_,3⟩ _)
 refine xK 2 ?_
 refine wD <| ak <| av.ent (aN.mW (c:=7) 8 16 (u8 0) (f:=bG (ug (vw seed idx m) 0)) rfl rfl rfl (by decide) rfl (by rw [hC];decide) (fun _ _=>rfl)) <| av.ent (aN.mW (c:=8) 8 16 (u8 0) (f:=bG (ug (vD seed idx m) 0)) rfl rfl rfl (by decide) rfl (by rw [hC];decide) (fun _ _=>rfl)) <| av.seq ?_
 refine xK 1 ?_
 refine wD <| ak <| av.block ?_
 refine av.loop (α:={ i:Nat // i≤16 }) (fun i=>Xj seed idx m i.1) (fun i=>16 - i.1) ⟨0,Nat.zero_le _⟩ ?_ ?_
 ·exact aN.ren [0,1,2,3,4,5,6,7,8] (by decide) rfl (fun i hi=>by replace hi:=Nat.lt_of_lt_of_eq hi hC;revert i;decide) (Nat.le_trans (Nat.le_of_eq hC) (by decide)) rfl (by repeat' (first |exact trivial |exact rfl |refine ⟨?_,?_⟩ |fail)) (by repeat' (first |exact trivial |exact ⟨_,rfl,rfl,rfl,Nat.le_refl _,fun _ _=>rfl⟩ |exact ⟨_,rfl,rfl,rfl,fun _ _=>rfl⟩ |exact ⟨_,rfl,rfl,rfl⟩ |exact ⟨_,rfl,rfl⟩ |refine ⟨?_,?_⟩ |fail))
 rintro ⟨i,hi⟩
 dsimp only
 refine xK 1 ?_
 refine wC (fun h1 => ?_) (fun h1 => ?_)
 ·(refine xG ?_)
  have h1':i<16:=xW
  have hb:=qp m i
  have eb:IntKind.i64.wrap (1 - ((oh m i:Nat):Int))=((1 - oh m i:Nat):Int):=xW
  refine wD <| ak <| av.seq <| av.block ?_
  refine xK 1 ?_
  refine xC rfl Tryz.func199 rfl ((Dj m i (by omega)).at [] ⟨ah rfl,ah rfl,trivial⟩ trivial) ?_
  refine xC rfl Tryz.func198 rfl ((Du seed idx i ((oh m i:Nat):Int)).at [] ⟨ah rfl,ah rfl,ah rfl,ah rfl,trivial⟩ trivial) ?_
  (repeat (refine wN ?_ ?_;exact xW;refine xG ?_))
  refine wD <| ak <| xI ?_
  (refine xB ?_)
  refine xC rfl Tryz.func199 rfl ((Dj m i (by omega)).at [] ⟨ah rfl,ah rfl,trivial⟩ trivial) ?_
  simp only [eb]
  refine xC rfl Tryz.func198 rfl ((Du seed idx i ((1 - oh m i:Nat):Int)).at [] ⟨ah rfl,ah rfl,ah rfl,ah rfl,trivial⟩ trivial) ?_
  refine xC rfl Tryz.func200 rfl ((FM (mZ seed idx i ((1 - oh m i:Nat):Int))).at [] ⟨ah rfl,trivial⟩ trivial) ?_
  (repeat (refine wN ?_ ?_;exact xW;refine xG ?_))
  refine wD <| aJ <| ak <| xI ?_
  (refine xB ?_)
  have hw:IntKind.i64.wrap ((i:Int) + 1)=((i + 1:Nat):Int):=xW
  refine wD <| aP ⟨⟨i + 1,h1'⟩,by dsimp only;omega,?_⟩
  rw [hw]
  ((try dsimp only);refine aN.dH [0,1,2,3,4,5,6,7,8] hC ?_ ?_<;>repeat' (first |exact trivial |exact rfl |exact ⟨_,rfl,rfl,rfl,Nat.le_refl _,fun _ _=>rfl⟩ |exact ⟨_,rfl,rfl,rfl,fun _ _=>rfl⟩ |exact ⟨_,rfl,rfl,rfl⟩ |exact ⟨_,rfl,rfl⟩ |refine ⟨_,rfl,rfl,rfl,by omega,fun k hk => ?_⟩ |refine ⟨?_,?_⟩ |fail))
  ·refine (Yr (ug (vw seed idx m) i) i k (vw seed idx m i)).trans ?_
   simp only [bG,DW]
  ·refine (Yr (ug (vD seed idx m) i) i k (vD seed idx m i)).trans ?_
   simp only [bG,DW]
 ·(refine xG ?_)
  have h1':i=16:=xW
  subst h1'
  have hf:∀ (g:Nat→H8) k,k<16→bG (ug g 16) k=bG g k:=fun g k hk=>by simp [bG,ug,hk]
  refine wD <| bW <| aS <| aI <| ak <| av.ent (aN.D7 (c:=7) (g:=bG (vw seed idx m)) rfl (hf _)) <| av.ent (aN.D7 (c:=8) (g:=bG (vD seed idx m)) rfl (hf _)) <| xI ?_
  (refine xB ?_)
  (repeat (refine wN ?_ ?_;exact xW;refine xG ?_))
  exact wD (Ends.plain (.inr rfl) rfl rfl)
def oP (mk:Nat→Nat→H8):Nat→List UInt8
 | 0=>[]
 | i + 1=>oP mk i++(mk i 0).l++(mk i 1).l
theorem iq (mk:Nat→Nat→H8):∀ i,(oP mk i).length=16 * i
 | 0=>rfl
 | i + 1=>by simp only [oP,List.length_append,iq mk i,H8.jg];omega
def zR (mk:Nat→Nat→H8):H8:=Ea 107 [oP mk 16]
def dF (m:H8) (o s:Nat→H8) (i b:Nat):H8:=if b=oh m i then nM (o i) else s i
def Xd (m:H8) (o s:Nat→H8) (i:Nat):St :=
 ⟨[none,none,none,some (XV.sv (.ptr 3 0 0 0)),some (XV.sv (.ptr 4 0 0 0)),some (XV.sv (.ptr 5 0 0 0)),some (XV.sv (.ptr 6 0 0 0)),some (XV.sv (.slc 7 1 0 (16 * i))),some (XV.int .i64 i)]++List.replicate 27 none,
  [(3,.cells 29 (m.cells.map .raw)),(4,.vec 44 8 16 (bG o)),(5,.vec 44 8 16 (bG s)),(6,.cells 29 ((List.replicate 8 (u8 0)).map .raw)),(7,.vec 5 1 (16 * i) (bI (oP (dF m o s) i)))],8⟩
set_option maxHeartbeats 4000000 in
theorem AP (m:H8) (o s:Nat→H8):Reads Tryz.prog 196 [.plain m.x,.plain (MB o 16),.plain (MB s 16)] [] (mO (zR (dF m o s))):=by
 refine Reads.of Tryz.aA Tryz.func196 rfl _ _ _ (by simp only [jl,AD.plain,List.all_cons,List.all_nil,Bool.and_true,Bool.and_eq_true];exact ⟨jy _ _,jy _ _,jy _ _⟩) rfl (fun C hC => ?_)
 (replace hC:C.n0=3:=hC;change av _ _ _ ⟨_,_,3⟩ _)
 refine xK 2 ?_
 refine wD <| ak <| av.ent (aN.Gj (c:=4) 8 16 (bG o) rfl rfl rfl (fun _ _=>rfl) (by decide) rfl (by rw [hC];decide)) <| av.ent (aN.Gj (c:=5) 8 16 (bG s) rfl rfl rfl (fun _ _=>rfl) (by decide) rfl (by rw [hC];decide)) <| av.ent (aN.nO (t:=7) rfl 5 1) <| av.seq ?_
 refine xK 1 ?_
 refine wD <| ak <| av.block ?_
 refine av.loop (α:={ i:Nat // i≤16 }) (fun i=>Xd m o s i.1) (fun i=>16 - i.1) ⟨0,Nat.zero_le _⟩ ?_ ?_
 ·((try dsimp only);refine aN.dH [0,1,2,3,4,5,6,8] hC ?_ ?_<;>repeat' (first |exact trivial |exact rfl |exact ⟨_,rfl,rfl,rfl,Nat.le_refl _,fun _ _=>rfl⟩ |exact ⟨_,rfl,rfl,rfl,fun _ _=>rfl⟩ |exact ⟨_,rfl,rfl,rfl⟩ |exact ⟨_,rfl,rfl⟩ |refine ⟨_,rfl,rfl,rfl,by omega,fun k hk => ?_⟩ |refine ⟨?_,?_⟩ |fail))
  exact absurd hk (Nat.not_lt_zero _)
 rintro ⟨i,hi⟩
 dsimp only
 refine xK 1 ?_
 refine wC (fun h1 => ?_) (fun h1 => ?_)
 ·(refine xG ?_)
  have h1':i<16:=xW
  have hw:IntKind.i64.wrap ((i:Int) + 1)=((i + 1:Nat):Int):=xW
  have hj:∀ (a b:H8) (k:Nat),k<16 * (i + 1)→eB (eB (bI (oP (dF m o s) i)) (16 * i) (bI a.l)) (16 * i + 8) (bI b.l) k=bI (oP (dF m o s) i++a.l++b.l) k:=fun a b k hk =>
   eG (a:=oP (dF m o s) i++a.l) (b:=b.l) (by rw [List.length_append,iq];rfl) (fun i' hi'=>eG (b:=a.l) (iq _ _).symm (fun _ _=>rfl) (fun _ _=>rfl) (by rw [← List.length_append];exact hi')) (fun _ _=>rfl) (by rw [List.length_append,iq];simp only [H8.jg];omega)
  refine wD <| ak <| av.seq <| av.block ?_
  refine xK 1 ?_
  (repeat (refine wN ?_ ?_;exact xW;refine xG ?_))
  refine xC rfl Tryz.func200 rfl ((FM (o i)).at [] ⟨ah rfl,trivial⟩ trivial) ?_
  (repeat (refine wN ?_ ?_;exact xW;refine xG ?_))
  refine wD <| ak <| av.seq ?_
  refine xK 1 ?_
  refine xC rfl Tryz.func199 rfl ((Dj m i (by omega)).at [] ⟨ah rfl,ah rfl,trivial⟩ trivial) ?_
  refine wD <| ak <| av.cond (b:=(((oh m i:Nat):Int) == 1)) rfl (fun hb => ?_) (fun hb => ?_)
  ·have hb':oh m i=1:=by
    have:=eq_of_beq hb
    omega
   refine xI ?_
   (refine xB ?_)
   refine wD <| ak <| xI ?_
   (refine xB ?_)
   (refine wP _ _ (aD Tryz.aA rfl rfl rfl rfl rfl [7,17] (aR rfl rfl (Nat.le_refl _) rfl) (jw (g:=bI (s i).l) rfl rfl rfl (fun _ _=>rfl) rfl) rfl (fun _ _=>rfl) (by simp only [maxLen];omega) (by dsimp only;omega)) ?_;refine xZ ?_)
   (refine wP _ _ (aD Tryz.aA rfl rfl rfl rfl rfl [31,18] (aR rfl rfl (Nat.le_refl _) rfl) (jw (g:=bI (nM (o i)).l) rfl rfl rfl (fun _ _=>rfl) rfl) rfl (fun _ _=>rfl) (by simp only [maxLen];omega) (by dsimp only;omega)) ?_;refine xZ ?_)
   refine wD <| aJ <| ak <| xI ?_
   (refine xB ?_)
   refine wD <| aP ⟨⟨i + 1,h1'⟩,by dsimp only;omega,?_⟩
   rw [hw]
   have e1:16 * i + (((8:Nat):Int).toNat - (0:Int).toNat) + (((8:Nat):Int).toNat - (0:Int).toNat)=16 * (i + 1):=by omega
   rw [e1]
   ((try dsimp only);refine aN.dH [0,1,2,3,4,5,6,33] hC ?_ ?_<;>repeat' (first |exact trivial |exact rfl |exact ⟨_,rfl,rfl,rfl,Nat.le_refl _,fun _ _=>rfl⟩ |exact ⟨_,rfl,rfl,rfl,fun _ _=>rfl⟩ |exact ⟨_,rfl,rfl,rfl⟩ |exact ⟨_,rfl,rfl⟩ |refine ⟨_,rfl,rfl,rfl,by omega,fun k hk => ?_⟩ |refine ⟨?_,?_⟩ |fail))
   have hm0:(dF m o s i 0)=s i:=by unfold dF;rw [if_neg (by omega)]
   have hm1:(dF m o s i 1)=nM (o i):=by unfold dF;rw [if_pos hb'.symm]
   refine (hj _ _ k hk).trans ?_
   rw [oP,hm0,hm1]
  ·have hb':oh m i=0:=by
    have h2:=qp m i
    have h3:¬ ((oh m i:Nat):Int)=1:=by simpa using hb
    omega
   refine av.skip (ak ?_)
   refine xI ?_
   (refine xB ?_)
   (refine wP _ _ (aD Tryz.aA rfl rfl rfl rfl rfl [7,17] (aR rfl rfl (Nat.le_refl _) rfl) (jw (g:=bI (nM (o i)).l) rfl rfl rfl (fun _ _=>rfl) rfl) rfl (fun _ _=>rfl) (by simp only [maxLen];omega) (by dsimp only;omega)) ?_;refine xZ ?_)
   (refine wP _ _ (aD Tryz.aA rfl rfl rfl rfl rfl [27,18] (aR rfl rfl (Nat.le_refl _) rfl) (jw (g:=bI (s i).l) rfl rfl rfl (fun _ _=>rfl) rfl) rfl (fun _ _=>rfl) (by simp only [maxLen];omega) (by dsimp only;omega)) ?_;refine xZ ?_)
   refine wD <| aJ <| ak <| xI ?_
   (refine xB ?_)
   refine wD <| aP ⟨⟨i + 1,h1'⟩,by dsimp only;omega,?_⟩
   rw [hw]
   have e1:16 * i + (((8:Nat):Int).toNat - (0:Int).toNat) + (((8:Nat):Int).toNat - (0:Int).toNat)=16 * (i + 1):=by omega
   rw [e1]
   ((try dsimp only);refine aN.dH [0,1,2,3,4,5,6,29] hC ?_ ?_<;>repeat' (first |exact trivial |exact rfl |exact ⟨_,rfl,rfl,rfl,Nat.le_refl _,fun _ _=>rfl⟩ |exact ⟨_,rfl,rfl,rfl,fun _ _=>rfl⟩ |exact ⟨_,rfl,rfl,rfl⟩ |exact ⟨_,rfl,rfl⟩ |refine ⟨_,rfl,rfl,rfl,by omega,fun k hk => ?_⟩ |refine ⟨?_,?_⟩ |fail))
   have hm0:(dF m o s i 0)=nM (o i):=by unfold dF;rw [if_pos hb'.symm]
   have hm1:(dF m o s i 1)=s i:=by unfold dF;rw [if_neg (by omega)]
   refine (hj _ _ k hk).trans ?_
   rw [oP,hm0,hm1]
 ·(refine xG ?_)
  have h1':i=16:=xW
  subst h1'
  obtain ⟨L,hL,hlen⟩:∃ L,oP (dF m o s) 16=L∧L.length=16 * 16:=⟨_,rfl,iq _ _⟩
  refine wD <| bW <| aS <| aI <| ak <| xI ?_
  rw [hL]
  (refine xB ?_)
  (refine wP _ _ (dQ Tryz.aA rfl rfl rfl) ?_;refine xZ ?_)
  refine xC rfl Tryz.func45 rfl ((jd 107 [L] (qQ _ _ (by rw [hlen];decide))).at [11,7] ⟨ah rfl,eD [L] rfl rfl rfl ⟨aF (lo:=0) hlen.symm rfl rfl (by show 0 + L.length≤16 * 16;omega) (fun i _=>by rw [Nat.zero_add]),trivial⟩,trivial⟩ trivial) ?_
  exact wD (Ends.plain (v:=mO (Ea 107 [L])) (.inr rfl) rfl (by rw [zR,hL]))
end Go.Proofs.YtnpkdoggfnlapaaGreatDoor
