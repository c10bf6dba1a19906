/- Parts Mm. -/
import Derived.Test.YtnpkdoggfnlapaaGreatDoorG27
import Derived.Test.YtnpkdoggfnlapaaGreatDoorG29
import Derived.Test.YtnpkdoggfnlapaaGreatDoorTie
import Derived.Test.YtnpkdoggfnlapaaGreatDoorCards
set_option linter.unusedSimpArgs false
set_option linter.unusedVariables false
namespace Go.Proofs.YtnpkdoggfnlapaaGreatDoor
set_option maxRecDepth 100000
open Go.Sx Go.RowKit Go.ChangeShapes Go.WideShapes Go.ChangeAt
set_option maxRecDepth 100000 in
theorem yP (os:Os) (started:os.Started) (H:Type) (enc:TypeId×Value→H) :
  ReturnsInHanded {} Tryz.checked os 11 .any (fun w args=>(Rows.payoutEndsSpec.pre enc Tryz.prog Tryz.f11 [] false w args∧laidMetH Tryz.prog [("drawbridge/hash.steps",Rows.laid_drawbridge_hash_steps)] w)∧sizedMet enc Tryz.prog Tryz.f11 (OpenSpec.ofChange Rows.payoutEndsSpec) false w args)
   (Rows.payoutEndsSpec.post enc Tryz.prog Tryz.f11 false true false false):=by
 refine returnsInHanded_of_change_and (C:=Tryz.checked) (X:=fun w _=>laidMetH Tryz.prog [("drawbridge/hash.steps",Rows.laid_drawbridge_hash_steps)] w) (fun _ _ _ hh h=>h.of_heap hh) own started (by kernel_rfl) Tryz.func11
  (ChangeSpec.witness_shaped (enc:=enc) (C:=Tryz.checked) (os:=os) (X:=fun w _=>laidMetH Tryz.prog [("drawbridge/hash.steps",Rows.laid_drawbridge_hash_steps)] w) false (World.doorLaid Tryz.prog 14 os) #[.slice none 0 0,.slice none 0 0,.agg #[.int .u8 0,.int .u8 0]] 8 rfl (World.shaped_of_RefB (by kernel_rfl) (by kernel_rfl)) (by kernel_rfl) (by kernel_rfl) (by kernel_rfl) (Rl os _)) ?_
 intro W base args ds gs before hval0 hW _ _ hL _
 have hval:∀ (j:Nat) t v,Tryz.f11.params[j]? = some t→args[j]? = some v→Value.okWide Tryz.prog W .any base t v:=hval0
 have hW':=hW
 obtain ⟨p,q,hA0,hV,rfl,hfz,hnd⟩:=hW
 have hA:DataW.TrodAll enc Tryz.prog W 0 (fun _=>true) true Tryz.f11.params.toList args.toList ds p:=hA0
 rw [Tryz.params11] at hA hval
 obtain ⟨v0,vs0,d0,ds0,p0,q0,hargs,rfl,rfl,h0,r0⟩:=trodAll_cons hA
 obtain ⟨v1,vs1,d1,ds1,p1,q1,rfl,rfl,rfl,h1,r1⟩:=trodAll_cons r0
 obtain ⟨v2,vs2,d2,ds2,p2,q2,rfl,rfl,rfl,h2,r2⟩:=trodAll_cons r1
 obtain ⟨rfl,rfl,rfl⟩:=trodAll_nil r2
 obtain rfl:args = #[v0,v1,v2]:=by cases args;simp_all
 obtain ⟨rfl,rfl⟩:=trodVars_none hV
 obtain ⟨lm,bm,k0⟩:=Jy h0 (hval 0 66 v0 rfl rfl)
 obtain ⟨lp,ad,bp,hq,k1⟩:=LW h1 (hval 1 91 v1 rfl rfl)
 obtain ⟨x,y,arr,rfl,hxy⟩:=O9 h2 (hval 2 104 v2 rfl rfl)
 clear hA0 hval0
 refine ((Bf @PZ (lm.map Int64.toInt) lp ad x y (by rw [List.length_map];exact bm) bp hq).calls (vs:=[v0,v1,.agg arr]) ⟨(by rw [List.length_map];exact QX k0),k1,Oh hxy,trivial⟩ (MV hL)).mono fun e W' ⟨v,β,he,hv,hb⟩ => ?_
 subst he
 simp only [XV.rel,CV.rel,SV.rel] at hv
 subst hv
 exact ⟨_,rfl,Pw laid hW' rfl (by kernel_rfl) hb rfl rfl (fun _ _=>trodAll_cons_mk (shut_bool Tryz.underlying4 _) trodAll_mk0)⟩
end Go.Proofs.YtnpkdoggfnlapaaGreatDoor
