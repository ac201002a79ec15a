import Derived.Test.YtmekpbopoknigaaGreatDoorQG
import Derived.Test.YtmekpbopoknigaaGreatDoorTie
import Derived.Test.YtmekpbopoknigaaGreatDoorCards
import Derived.LaidMore
import Derived.Lay
import Derived.SevenTiedAt
import Derived.Stop.Joined
import Derived.Test.YtmekpbopoknigaaGreatDoorQP
import Derived.Test.YtmekpbopoknigaaGreatDoorQzA
namespace Go.Proofs.YtmekpbopoknigaaGreatDoor.lawTopMoved
open Go Go.ChangeShapes Go.WideShapes Go.ChangeAt Go.RowKit Sym
theorem own:ownKnob Tryz.prog.godebug=none:=by kernel_rfl
theorem laidOut:laidOutB Tryz.prog=true:=by kernel_rfl
theorem readable:(Tryz.f3.params.toList.all λt=>Tryz.prog.readableRec t&&decide (t<Tryz.prog.types.size))=true:=by kernel_rfl
set_option maxRecDepth 100000 in
theorem lifted(os:Os)(started:os.Started)(H:Type)(enc:TypeId×Value->H) :
  ReturnsInHanded {} Tryz.checked os 3 .any (λw args=>(Rows.topMovedSpec.pre enc Tryz.prog Tryz.f3 Rows.topMovedRow.domain false w args/\laidMetH Tryz.prog Rows.topMovedRow.laid w)/\sizedMet enc Tryz.prog Tryz.f3 (OpenSpec.ofChange Rows.topMovedSpec) false w args) (Rows.topMovedSpec.post enc Tryz.prog Tryz.f3 false true false false):=by
 refine returnsInHanded_of_change_and (C:=Tryz.checked) (X:=λw _=>laidMetH Tryz.prog Rows.topMovedRow.laid w) (λ_ _ _ hh h=>h.of_heap hh) own started (by kernel_rfl) Tryz.func3
  (ChangeSpec.witness_shaped (enc:=enc) (C:=Tryz.checked) (os:=os) (X:=λw _=>laidMetH Tryz.prog Rows.topMovedRow.laid w) false (World.laidAll Tryz.prog os Rows.topMovedRow.laid) #[.slice none 0 0,.agg #[.int .i64 0,.int .i64 0,.int .i64 0,.int .i64 0,.int .i64 0,.int .i64 0],.agg #[.bool false,.bool false,.int .i64 0,.int .i64 0,.int .i64 0],.bool false] 8 (World.laidAll_os _ _ _)
   (World.shaped_of_ZipB (by kernel_rfl) (by kernel_rfl)) (by kernel_rfl) (by kernel_rfl) (by kernel_rfl)
   (by rw[MakeChecks.laidMetH_plain _ _ _ (by kernel_rfl)];exact laidMet_laidAll _ (by kernel_rfl) (by kernel_rfl))) ?_
 intro W base args ds gs before hval0 hW hcnd _ hL _
 have hval:∀(j:Nat) t v,Tryz.f3.params[j]? = some t->args[j]? = some v->Value.okWide Tryz.prog W .any base t v:=hval0
 have hW':=hW
 obtain⟨p,q,hA0,hV,rfl,hfz,hnd⟩:=hW
 obtain⟨rfl,rfl⟩:=trodVars_none hV
 have hA:DataW.TrodAll enc Tryz.prog W 0 (λ_=>true) true Tryz.f3.params.toList args.toList ds p:=hA0
 have hA1:=hA
 rw[Tryz.params3]at hA hval
 obtain⟨v0,vs0,d0,ds0,p0,q0,hargs,rfl,rfl,h0,r0⟩:=trodAll_cons hA
 obtain⟨v1,vs1,d1,ds1,p1,q1,rfl,rfl,rfl,h1,r1⟩:=trodAll_cons r0
 obtain⟨v2,vs2,d2,ds2,p2,q2,rfl,rfl,rfl,h2,r2⟩:=trodAll_cons r1
 obtain⟨v3,vs3,d3,ds3,p3,q3,rfl,rfl,rfl,h3,r3⟩:=trodAll_cons r2
 obtain⟨rfl,rfl,rfl⟩:=trodAll_nil r3
 obtain rfl:args = #[v0,v1,v2,v3]:=by cases args;simp_all
 obtain⟨a0,w0,e0⟩:=open_O shT Tryz.underlying22 (by kernel_rfl) ⟨_,_,Tryz.underlying41,rfl,rfl,rfl,rfl⟩ (hval 0 22 v0 rfl rfl) h0
 obtain⟨a1,rfl⟩:=open_V Tryz.underlying24 (by kernel_rfl) ⟨rfl,rfl,rfl,rfl,rfl,rfl⟩ ⟨by kernel_rfl,by kernel_rfl,by kernel_rfl,by kernel_rfl,by kernel_rfl,by kernel_rfl⟩ Tryz.underlying2 Tryz.underlying2 Tryz.underlying2 Tryz.underlying3 Tryz.underlying3 Tryz.underlying3 (hval 1 24 v1 rfl rfl) h1
 obtain⟨a2,rfl⟩:=open_T Tryz.underlying28 (by kernel_rfl) ⟨rfl,rfl,rfl,rfl⟩ ⟨by kernel_rfl,by kernel_rfl,by kernel_rfl,by kernel_rfl⟩ Tryz.underlying4 Tryz.underlying4 Tryz.underlying3 Tryz.underlying26 rfl rfl (by kernel_rfl) (by kernel_rfl) Tryz.underlying2 Tryz.underlying2 (hval 2 28 v2 rfl rfl) h2
 obtain⟨a3,rfl⟩:=open_B Tryz.underlying4 (hval 3 4 v3 rfl rfl) h3
 have hr:∀t∈Tryz.f3.params.toList,Tryz.prog.readableRec t=true/\t<Tryz.prog.types.size:=λt ht=>by
  have:=List.all_eq_true.1 readable t ht
  simpa using this
 refine(zyt (us:=[v0,vwV a1,tn a2,vb a3]) Tryz.func3 (by kernel_rfl) (by kernel_rfl) (zzn a0 w0 a1 a2 a3) W ⟨e0,den_V a1 W _,den_T a2 W _,den_B a3 W _,trivial⟩).mono λe W' ⟨he,hg⟩=>?_
 subst he
 simp only[List.append_nil]at hW' hA1 ⊢
 exact⟨_,rfl,yhg laidOut rfl Tryz.underlying4 hr rfl rfl hW' hA1 hg⟩
theorem over:Rows.topMovedRow.holds Tryz.pinned (OpenSpec.ofChange Rows.topMovedSpec):=
 OpenClaim.holds_of_wide 3 Tryz.f3 rfl rfl rfl rfl rfl rfl rfl ⟨rfl,rfl,rfl,rfl,rfl⟩ rfl rfl rfl rfl rfl named Tryz.func3 facts inst wrap (λos started H enc _=>lifted os started H enc)
theorem proved:Rows.TopMovedCardSaid:=
 Claim7.holds_tied_plain_at .later [] [.data,.data,.data,.data,.sentinel,.sentinel,.pinned] true (true,"71bb05de010c0d1f0f63b67c0ce6799a2bcd3ca87359a4aeebe16ba645ee2e1f") true over (λ_ h=>by cases h) (by kernel_rfl) (λ_ h=>by cases h) topMoved_row_tie rfl ⟨rfl,rfl⟩ (by kernel_rfl) rfl
  (λf fn hf hfn=>by
   obtain rfl:f=3:=Option.some.inj ((show Tryz.prog.funcNamed "heliograph/heliographtop.TopMoved"=some 3 by kernel_rfl).symm.trans hf) |>.symm
   obtain rfl:fn=Tryz.f3:=(Option.some.inj (Tryz.func3.symm.trans hfn)).symm
   exact⟨by kernel_rfl,λj t ht=>by
    rw[Tryz.params3]at ht
    have hm:t∈[22,24,28,4]:=by simpa using Array.mem_of_getElem? ht
    have hall:([22,24,28,4].all λu=>!Tryz.prog.wantsStandIn u)=true:=by kernel_rfl
    exact(show Tryz.prog.wantsStandIn t=false by simpa using List.all_eq_true.1 hall t hm)⟩)
  (by kernel_rfl)
#print axioms proved
end Go.Proofs.YtmekpbopoknigaaGreatDoor.lawTopMoved
