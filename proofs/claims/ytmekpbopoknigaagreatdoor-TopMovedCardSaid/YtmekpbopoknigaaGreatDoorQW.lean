import Derived.Test.YtmekpbopoknigaaGreatDoorQV
import Derived.Tactics
import Derived.Tactics2
import Derived.Defers
import Derived.Laws.Pointers
import Derived.Laws.LoneSync
import Derived.Laws.NewBlocks
import Derived.RegionTactic
import Derived.RegionCalls
import Derived.ChangeAlike
import Derived.Test.YtmekpbopoknigaaGreatDoorQP
import Derived.Test.YtmekpbopoknigaaGreatDoorQL
import Derived.Test.YtmekpbopoknigaaGreatDoorQQ
import Derived.Deep.RegionWith
namespace Go.Proofs.YtmekpbopoknigaaGreatDoor
open Go Go.RowKit Sym
set_option maxRecDepth 100000
theorem zt2(w:World):(callFunc 156 #[]).run Tryz.prog w=.ok (.value (.tuple #[])) w:=run_call_mark0 Tryz.func156 (by kernel_rfl) (by kernel_rfl) (by kernel_rfl) .disable (by kernel_rfl) w
theorem zxw(w:World):(callFunc 158 #[]).run Tryz.prog w=.ok (.value (.tuple #[])) w:=run_call_mark0 Tryz.func158 (by kernel_rfl) (by kernel_rfl) (by kernel_rfl) .enable (by kernel_rfl) w
theorem z5z(a:Addr)(w:World):(callFunc 159 #[.pointer (some a)]).run Tryz.prog w=.ok (.value (.tuple #[])) w:=run_call_marked Tryz.func159 (by kernel_rfl) (by kernel_rfl) (by kernel_rfl) .acquire (by kernel_rfl) a w
theorem zrr(a:Addr)(w:World):(callFunc 161 #[.pointer (some a)]).run Tryz.prog w=.ok (.value (.tuple #[])) w:=run_call_marked Tryz.func161 (by kernel_rfl) (by kernel_rfl) (by kernel_rfl) .releaseMerge (by kernel_rfl) a w
theorem yg7(a:Addr)(x:Value)(u:FrameMode)(w:World)(hc:w.cell? a=some x)(hz:w.frozen? a=false) :
  CallsD Tryz.prog 92 #[.pointer (some a),.bool true] u w λe u' w'=>u'=u/\(e=.returned (.tuple #[])/\w'=w.drew.setCell a (.int .u32 1)):=by
 have hc':w.drew.cell? a=some x:=by go_simp
 have hz':w.drew.frozen? a=false:=by go_simp
 have hst:=run_call_store (P:=Tryz.prog) Tryz.func113 (by kernel_rfl) (by kernel_rfl) (by kernel_rfl) (by kernel_rfl) (k:=.u32) (y:=1) hc' hz'
 go_enter_d Tryz.func92,Tryz.ntmps92
 go_wp2
 go_region_calls
 all_goals (go_end0;exact⟨rfl,rfl⟩)
theorem lz_u1:Tryz.prog.underlying 288=some (.pointer 152):=by kernel_rfl
theorem lz_u2:Tryz.prog.underlying 291=some .unsafePointer:=by kernel_rfl
theorem ya1(a:Addr)(u:FrameMode)(w:World)(hc:w.cell? a=some (.int .i32 1))(hz:w.frozen? a=false) :
  CallsD Tryz.prog 91 #[.pointer (some a)] u w λe u' w'=>u'=u/\(e=.returned (.tuple #[])/\w'=w.setCell a (.int .i32 0)):=by
 have hd:=zt2
 have he:=zxw
 have hr:=zrr
 have hadd:=run_call_add (P:=Tryz.prog) Tryz.func82 (by kernel_rfl) (by kernel_rfl) (by kernel_rfl) .i32 (by kernel_rfl) (y:=-1) (s:=0) hc hz (by simp[go_sem];rfl)
 have hcv:=run_convert_to_unsafe (P:=Tryz.prog) (src:=288) (dst:=291) lz_u1 lz_u2 (by kernel_rfl) hc
 go_enter_d Tryz.func91,Tryz.ntmps91
 go_wp2
 go_end0
 go_wp2
 go_end0
 exact⟨rfl,rfl⟩
theorem yni(a:Addr)(w:World)(hc:w.cell? a=some (.int .i32 0))(hz:w.frozen? a=false) :
  Calls Tryz.prog 90 #[.pointer (some a)] w λe w'=>e=.returned (.tuple #[])/\w'=w.setCell a (.int .i32 1):=by
 have hd:=zt2
 have he:=zxw
 have ha:=z5z
 have hcas:=run_call_cas_hit (P:=Tryz.prog) Tryz.func157 (by kernel_rfl) (by kernel_rfl) (by kernel_rfl) .i32 (by kernel_rfl) (y:=1) hc hz
 have hc':(w.setCell a (.int .i32 1)).cell? a=some (.int .i32 1):=World.cell?_setCell_same w a _ hc
 have hcv:=run_convert_to_unsafe (P:=Tryz.prog) (src:=288) (dst:=291) lz_u1 lz_u2 (by kernel_rfl) hc'
 go_enter Tryz.func90,Tryz.ntmps90
 go_wp2
 first|go_end0|(simp only[Exit.inBlock,Exit.then];refine bodyPost_ret (results_none rfl _ _ _) rfl ?_)|refine bodyPost_ret (results_none rfl _ _ _) rfl ?_
 go_wp2
 go_end0
 exact⟨rfl,rfl⟩
end Go.Proofs.YtmekpbopoknigaaGreatDoor
namespace Go.Proofs.YtmekpbopoknigaaGreatDoor.Dyn
open Go Go.RowKit Sym
def cloS(fn:Func)(tp t:TypeId)(cs:List Value):St:=
 {slots:=.v (.pointer (some ⟨0,0,none⟩))::List.replicate (fn.ntmps-1) .junk,heap:=[some (.cells tp [.pointer (some ⟨1,0,none⟩)]),some (.cells t cs)],keep:=true}
theorem zyq{P:Program}{X:Tabs}(ht:zal P X)(hm:P.follows .mixedOrders=true){K:Nat}{fn:Func}(hf:P.funcs[K]? = some fn){c:Code}(hb:fn.body=some c){fuel:Nat}{bp b:Nat}{tp t:TypeId}{cs:List Value}(hcs:allB zel cs=true)(hne:bp≠b)(hnt:0<fn.ntmps){S:St->Prop}
  (hres:∀(tmps:Array Value) (w:World),(results fn tmps).run P w=.ok (.tuple #[]) w)
  (hs:(zbm P X noLp fuel c .leaf (cloS fn tp t cs)).sat λe s=>(e=.normal\/e=.ret)/\s.keep=true/\S s)
  (w:World) (h1:w.heap[bp]? = some (.cells #[.pointer (some ⟨b,0,none⟩)] tp (0,0))) (h2:w.heap[b]? = some (.cells cs.toArray t (0,0))) :
  Calls P K #[.pointer (some ⟨bp,0,none⟩)] w λe w'=>e=.returned (.tuple #[])/\∃(w0:Base P) (β:Env) (s:St) (a:Act),w0.w=w/\w0.bs=[bp,b]/\(∀q,¬w0.F q)/\(β 0).1=bp/\(β 1).1=b/\M w0 β s a w'/\S s:=by
 let β0:Env:=λi=>(bif Nat.beq i 0 then bp else b,λ_=>.bool false)
 let w0:Base P:=⟨w,λ_=>False,λ_ h=>h.elim,[bp,b],λ_ _ h=>h,λ_ h=>h.elim,λ_=>False,λ_ h=>h.elim,β0,λn=>n<2⟩
 have m0:Mem w0 β0 (cloS fn tp t cs).heap w:=by
  have hat:∀n he,(cloS fn tp t cs).heap.getD n none=some he->(n=0/\he=.cells tp [.pointer (some ⟨1,0,none⟩)])\/(n=1/\he=.cells t cs):=λn he hn=>by
   match n,hn with
   |0,hn=>exact .inl ⟨rfl,by simpa [cloS]using hn.symm⟩
   |1,hn=>exact .inr ⟨rfl,by simpa [cloS]using hn.symm⟩
   |n+2,hn=>simp[cloS]at hn
  refine⟨λn he hn=>?_,λn k c d q hn hk hc hd=>?_,λn t' cs' hn v hv q hq=>?_,λ_ _=>rfl,⟨rfl,rfl,rfl,Nat.le_refl _,λ_ _ _=>rfl⟩,λn v i hn=>?_⟩
  ·rcases hat n he hn with⟨rfl,rfl⟩|⟨rfl,rfl⟩
   ·exact⟨h1,.inr (by show bp∈[bp,b];simp)⟩
   ·refine⟨?_,.inr (by show b∈[bp,b];simp)⟩
    rw[zbi λy hy=>zbn (za4.1 hcs y hy)]
    exact h2
  ·rcases hat n c hn with⟨rfl,rfl⟩|⟨rfl,rfl⟩
   ·rcases hat k d hk with⟨rfl,rfl⟩|⟨rfl,rfl⟩
    ·rfl
    ·simp only[zc8,Option.some.injEq]at hc hd
     exact absurd (show bp=b from(show bp=q from hc).trans (show b=q from hd).symm) hne
   ·rcases hat k d hk with⟨rfl,rfl⟩|⟨rfl,rfl⟩
    ·simp only[zc8,Option.some.injEq]at hc hd
     exact absurd (show bp=b from(show bp=q from hd).trans (show b=q from hc).symm) hne
    ·rfl
  ·rcases hat n _ hn with⟨rfl,e⟩|⟨rfl,e⟩
   ·simp only[HE.cells.injEq]at e
    obtain⟨rfl,rfl⟩:=e
    simp only[List.mem_singleton]at hv;subst hv
    simp only[zaz,zbc,List.mem_singleton]at hq;subst hq
    exact⟨.cells t cs,rfl⟩
   ·simp only[HE.cells.injEq]at e
    obtain⟨rfl,rfl⟩:=e
    rw[zb8 (za4.1 hcs v hv)]at hq;cases hq
  ·rcases hat n _ hn with⟨_,e⟩|⟨_,e⟩<;>cases e
 have hg0:(cloS fn tp t cs).slots.getD 0 .junk=.v (.pointer (some ⟨0,0,none⟩)):=rfl
 have hgj:∀i,0<i->(cloS fn tp t cs).slots.getD i .junk=.junk:=λi hi=>by
  obtain⟨j,rfl⟩:∃j,i=j+1:=⟨i-1,by omega⟩
  simp only[cloS,List.getD_eq_getElem?_getD,List.getElem?_cons_succ,List.getElem?_replicate]
  split<;>rfl
 have m:M w0 β0 (cloS fn tp t cs) {tmps:=(#[.pointer (some ⟨bp,0,none⟩)]:Array Value)++Array.replicate (fn.ntmps-(#[.pointer (some ⟨bp,0,none⟩)]:Array Value).size) undef,defers:=[]} w:=by
  have hanc:∀n,n<2->∃c,(cloS fn tp t cs).heap.getD n none=some c:=λn hn=>by
   match n,hn with
   |0,_=>exact⟨_,rfl⟩
   |1,_=>exact⟨_,rfl⟩
   |n+2,hn=>omega
  refine {defers:=rfl,anc:=λ_ n hn=>⟨rfl,hanc n hn⟩,size:=by simp[cloS];omega,slot:=λi u hu=>?_,locs:=λi n hn=>?_,mem:=m0,tie:=λp hp=>by cases hp}
  ·by_cases hi:i=0
   ·subst hi
    rw[hg0]
    have:u=.pointer (some ⟨bp,0,none⟩):=by
     rw[Array.getElem?_append_left (by simp)]at hu
     simpa using hu.symm
    subst this
    exact rfl
   ·rw[hgj i (by omega)];trivial
  ·by_cases hi:i=0
   ·subst hi
    rw[hg0]at hn
    simp only[names,refs,zbk,zaz,zbc,List.mem_singleton]at hn;subst hn
    exact⟨_,rfl⟩
   ·rw[hgj i (by omega)]at hn;cases hn
 have ng:NoG (cloS fn tp t cs):=by
  intro x hx
  rcases List.mem_cons.1 hx with rfl|hx
  ·rfl
  ·rw[(List.mem_replicate.1 hx).2];rfl
 refine calls_of_wp hf hb ?_
 refine zd3 ht hm c (zcl c w0) .leaf _ _ _ w _ m ng hs λe s β a w' m' _ hl=>?_
 obtain⟨he,hk,hS⟩:=hl
 have a0:=m'.anc hk 0 (by show 0<2;omega)
 have a1:=m'.anc hk 1 (by show 1<2;omega)
 have hpost:a.defers=[]/\∃v',(results fn a.tmps).run P w'=.ok v' w'/\(Ending.returned v'=.returned (.tuple #[])/\∃(w0:Base P) (β:Env) (s:St) (a:Act),w0.w=w/\w0.bs=[bp,b]/\(∀q,¬w0.F q)/\(β 0).1=bp/\(β 1).1=b/\M w0 β s a w'/\S s):=
  ⟨m'.defers,_,hres _ _,rfl,w0,β,s,a,rfl,rfl,λ_ h=>h,by rw[a0.1];rfl,by rw[a1.1];rfl,m',hS⟩
 rcases he with rfl|rfl<;>exact hpost
end Go.Proofs.YtmekpbopoknigaaGreatDoor.Dyn
namespace Go.Proofs.YtmekpbopoknigaaGreatDoor
open Go Go.RowKit Sym
set_option maxRecDepth 100000
def lfEx:Dyn.Out->zcg
 |.leaf e _=>e
 |_=>.exit 99
def lfSt:Dyn.Out->Dyn.St
 |.leaf _ s=>s
 |_=>{slots:=[],heap:=[]}
def isLf:Dyn.Out->Bool
 |.leaf _ _=>true
 |_=>false
theorem z3g{o:Dyn.Out}{F:zcg->Dyn.St->Prop}(h:isLf o=true)(k:F (lfEx o) (lfSt o)):o.sat F:=by
 cases o with
 |leaf e s=>exact k
 |ite b x y=>cases h
 |side ps x=>cases h
 |fail=>cases h
noncomputable def tdLz:List Dyn.zb2:=[(65,enCs [([strV zi1,dvI 10],rPlt)])]
theorem yln:∀e∈tdLz,Dyn.zbu Tryz.prog e:=List.forall_mem_cons.2 ⟨zdm (List.forall_mem_cons.2 ⟨file_T,λ_ h=>by cases h⟩),λ_ h=>by cases h⟩
noncomputable def z15:Dyn.Tabs:={tab0 with cl:=true,dres:=λn=>Nat.beq n 65,dty:=λ_=>true,td:=Dyn.tdOf tdLz}
theorem z8y:Dyn.zal Tryz.prog z15:=by
 constructor
 case td=>exact Dyn.zhw yln
 case tb=>intro K args v ps h;simp[tab0,z15]at h
 all_goals (intros;simp_all [tab0,z15])
noncomputable def yhq:Nat->Option Func:=fnsL [(66,Tryz.f66),(82,Tryz.f82)]
def lpsLz:Nat->Dyn.Lp:=λK _ st=>bif Nat.beq K 82 then Dyn.addA true .i32 st else none
theorem zr7{K:Nat}{f:Func}(h:yhq K=some f):(K=66/\f=Tryz.f66)\/(K=82/\f=Tryz.f82):=by
 unfold yhq fnsL at h
 cases e:Nat.beq K 66 with
 |true=>rw[e]at h;have:=Nat.eq_of_beq_eq_true e;subst this;cases h;exact .inl ⟨rfl,rfl⟩
 |false=>
  rw[e]at h;unfold fnsL at h
  cases e:Nat.beq K 82 with
  |true=>rw[e]at h;have:=Nat.eq_of_beq_eq_true e;subst this;cases h;exact .inr ⟨rfl,rfl⟩
  |false=>rw[e]at h;cases h
theorem yhp:Dyn.z6x Tryz.prog yhq lpsLz where
 fn K f h:=by
  rcases zr7 h with⟨rfl,rfl⟩|⟨rfl,rfl⟩
  ·exact⟨Tryz.func66,by kernel_rfl⟩
  ·exact⟨Tryz.func82,by kernel_rfl⟩
 lp K f c h h2 w0:=by
  rcases zr7 h with⟨rfl,rfl⟩|⟨rfl,rfl⟩
  ·intro p hp s o ho;cases ho
  ·cases h2
 ex K f h hb xs hp st hst:=by
  rcases zr7 h with⟨rfl,rfl⟩|⟨rfl,rfl⟩
  ·cases hst
  ·exact Dyn.ypd Tryz.func82 (by kernel_rfl) (by kernel_rfl) (by kernel_rfl) (kd:=.i32) (by kernel_rfl) (q:=true) hst
noncomputable def tabLz:Dyn.Tabs:=Dyn.inlT Tryz.prog z15 yhq lpsLz 3 6 3
theorem yfm:Dyn.zal Tryz.prog tabLz:=Dyn.zjf z8y mo yhp 3
def csLz(q:Value)(mu made:Int):List Value:=[.string zi1.toUTF8,.int .i64 10,.int .u32 0,.int .i32 mu,.int .u32 0,.int .i32 made,q,.int .i64 0,.int .i64 0]
noncomputable def z5d:Dyn.Out:=Dyn.zbm Tryz.prog tabLz Dyn.noLp 3 (zbx Tryz.f64.body) .leaf (Dyn.cloS Tryz.f64 126 165 (csLz (.slice none 0 0) 1 0))
theorem ymz:(lfEx z5d=.normal)/\(lfSt z5d).keep=true/\(lfSt z5d).heap.getD 0 none=some (.cells 126 [.pointer (some ⟨1,0,none⟩)])/\(lfSt z5d).heap.getD 1 none=some (.cells 165 (csLz (.slice (some ⟨13,0,some 0⟩) 1 0) 1 1))/\(lfSt z5d).heap.getD 13 none=some (.deep (Dyn.zdh rPlt)):=by
 refine⟨?_,?_,?_,?_,?_⟩<;>kernel_rfl
def objT:Dyn.DC:=.row 1 λ_=>cB true::cS shTq
def NewB(w w':World)(q:Nat):Prop:=w.heap.size<=q/\q<w'.heap.size/\Dyn.zar w' q
structure ydl(bp b:Nat)(w w':World)(q:Addr)(c:Nat):Prop where
 blk:w'.heap[b]? = some (.cells (csLz (.slice (some q) 1 c) 1 1).toArray 165 (0,0))
 den:Dyn.DenC w' (NewB w w') objT (.slice (some q) 1 c)
 os:w'.os=w.os
 tape:w'.tape=w.tape
 output:w'.output=w.output
 size:w.heap.size<=w'.heap.size
 block:∀k,k<w.heap.size->k≠b->w'.heap[k]? = w.heap[k]?
theorem lz_clo(bp b:Nat)(hne:bp≠b)(w:World)(h1:w.heap[bp]? = some (.cells #[.pointer (some ⟨b,0,none⟩)] 126 (0,0)))(h2:w.heap[b]? = some (.cells (csLz (.slice none 0 0) 1 0).toArray 165 (0,0))) :
  Calls Tryz.prog 64 #[.pointer (some ⟨bp,0,none⟩)] w λe w'=>e=.returned (.tuple #[])/\∃q c,ydl bp b w w' q c:=by
 obtain⟨o1,o2,o3,o4,o5⟩:=ymz
 have k:=Dyn.zyq yfm mo Tryz.func64 (c:=zbx Tryz.f64.body) (by kernel_rfl) (fuel:=3) (bp:=bp) (b:=b) (tp:=126) (t:=165) (cs:=csLz (.slice none 0 0) 1 0) (by kernel_rfl) hne (by decide)
  (S:=λs=>s.heap.getD 0 none=some (.cells 126 [.pointer (some ⟨1,0,none⟩)])/\s.heap.getD 1 none=some (.cells 165 (csLz (.slice (some ⟨13,0,some 0⟩) 1 0) 1 1))/\s.heap.getD 13 none=some (.deep (Dyn.zdh rPlt)))
  (λtmps w=>by simp[results,Tryz.results64,go_sem]) (z3g (o:=z5d) (by kernel_rfl) ⟨.inl o1,o2,o3,o4,o5⟩) w h1 h2
 refine k.mono ?_
 rintro e w' ⟨rfl,w0,β,s,a,hw,hbs,hF,hb0,hb1,m,s0,s1,s13⟩
 refine⟨rfl,?_⟩
 have n1:=(m.mem.ok 1 _ s1).1
 have n0:=(m.mem.ok 0 _ s0).1
 have n13:=m.mem.ok 13 _ s13 0 objT rfl
 rw[hb1]at n1
 rw[hb0]at n0
 have d13:Dyn.DenC w' (NewB w w') objT ((β 13).2 0):=Dyn.DenC.mono (λx hx=>⟨by
  rcases hx with hx|hx
  ·exact(hF x hx).elim
  ·rw[hw]at hx;exact⟨hx.1,hx.2.1⟩,rfl⟩) n13
 have hs:∃q c,(β 13).2 0=.slice (some q) 1 c:=by
  generalize (β 13).2 0=u at d13
  have d:Dyn.DenC w' (NewB w w') (.row 1 λ_=>cB true::cS shTq) u:=d13
  cases d with
  |row=>exact⟨_,_,rfl⟩
 obtain⟨q,c,hq⟩:=hs
 have hbe:=m.mem.below
 have e1:(csLz (.slice (some ⟨13,0,some 0⟩) 1 0) 1 1).map (Dyn.ren0 β)=csLz (.slice (some q) 1 c) 1 1:=by
  rw[←hq];rfl
 rw[e1]at n1
 refine⟨q,c,n1,hq▸d13,by rw[hbe.os,hw],by rw[hbe.tape,hw],by rw[hbe.output,hw],by rw[←hw];exact hbe.size,λk hk hkb=>?_⟩
 by_cases e:k=bp
 ·subst e
  rw[n0,h1]
  show some (Obj.cells (List.map (Dyn.ren0 β) [.pointer (some ⟨1,0,none⟩)]).toArray _ _)=_
  have:List.map (Dyn.ren0 β) [.pointer (some ⟨1,0,none⟩)]=[Value.pointer (some ⟨b,0,none⟩)]:=by
   show[Value.pointer (some ⟨(β 1).1,0,none⟩)]=_
   rw[hb1]
  rw[this]
 ·have:=hbe.block k (by rw[hw];exact hk) (by show ¬k∈w0.bs;rw[hbs];simp[e,hkb])
  rw[this,hw]
theorem zs0{w:World}{b off:Nat}{t:TypeId}{l:List Value}{v:Value}(h:w.heap[b]? = some (.cells l.toArray t (0,0)))(hv:l[off]? = some v):w.cell? ⟨b,off,none⟩=some v:=by simp[World.cell?,h,hv]
theorem ynz{w:World}{b off:Nat}{t:TypeId}{l:List Value}(h:w.heap[b]? = some (.cells l.toArray t (0,0))):w.frozen? ⟨b,off,none⟩=false:=by simp[World.frozen?,h]
theorem setA{w:World}{b off:Nat}{t:TypeId}{l:List Value}{v:Value}(h:w.heap[b]? = some (.cells l.toArray t (0,0))):(w.setCell ⟨b,off,none⟩ v).heap[b]? = some (.cells (l.set off v).toArray t (0,0)):=by
 rw[Dyn.z9i h];simp
set_option maxHeartbeats 4000000 in
theorem ynh(bp b:Nat)(hne:bp≠b)(w:World)(h1:w.heap[bp]? = some (.cells #[.pointer (some ⟨b,0,none⟩)] 126 (0,0)))(h2:w.heap[b]? = some (.cells (csLz (.slice none 0 0) 0 0).toArray 165 (0,0))) :
  Calls Tryz.prog 75 #[.pointer (some ⟨b,2,none⟩),.func (.func 64) #[] #[.pointer (some ⟨bp,0,none⟩)]] w λe w'=>e=.returned (.tuple #[])/\∃q c w2,ydl bp b (w.setCell ⟨b,3,none⟩ (.int .i32 1)) w2 q c/\w'=(w2.drew.setCell ⟨b,2,none⟩ (.int .u32 1)).setCell ⟨b,3,none⟩ (.int .i32 0):=by
 have g2:(w.setCell ⟨b,3,none⟩ (.int .i32 1)).heap[b]? = some (.cells (csLz (.slice none 0 0) 1 0).toArray 165 (0,0)):=setA h2
 have g1:(w.setCell ⟨b,3,none⟩ (.int .i32 1)).heap[bp]? = some (.cells #[.pointer (some ⟨b,0,none⟩)] 126 (0,0)):=(Dyn.zq0 hne).trans h1
 have c3:w.cell? ⟨b,3,none⟩=some (.int .i32 0):=zs0 h2 rfl
 have z3:w.frozen? ⟨b,3,none⟩=false:=ynz h2
 have hl:=run_call_load (P:=Tryz.prog) Tryz.func89 (by kernel_rfl) (by kernel_rfl) (by kernel_rfl) .u32 (by kernel_rfl) (w:=w.setCell ⟨b,3,none⟩ (.int .i32 1)) (a:=⟨b,2,none⟩) (x:=0) (zs0 g2 rfl)
 have hnot:∀(x:Bool) (w:World),(Op.unary .not (.bool x)).run Tryz.prog w=.ok (.bool (!x)) w:=λ_ _=>rfl
 go_enter_defers Tryz.func75,Tryz.ntmps75
 go_wp2_with (first|(go_at_call 90;refine(yni ⟨b,3,none⟩ _ c3 z3).mono ?_;rintro e w' ⟨rfl,rfl⟩)|(go_at_call 64;refine(lz_clo bp b hne _ g1 g2).mono ?_;rintro e w2 ⟨rfl,q,c,hP⟩)|(go_at_call 74;go_in))
 have p2:w2.cell? ⟨b,2,none⟩=some (.int .u32 0):=zs0 hP.blk rfl
 have p2z:w2.frozen? ⟨b,2,none⟩=false:=ynz hP.blk
 have hb3:(w2.drew.setCell ⟨b,2,none⟩ (.int .u32 1)).heap[b]? = some (.cells ((csLz (.slice (some q) 1 c) 1 1).set 2 (.int .u32 1)).toArray 165 (0,0)):=setA (w:=w2.drew) hP.blk
 refine leaves_cons (f:=92) (args:=#[.pointer (some ⟨b,2,none⟩),.bool true]) (by simp) (by simp[go_sem]) ?_
 refine(yg7 ⟨b,2,none⟩ (.int .u32 0) .returning _ p2 p2z).mono ?_
 rintro e u' w'' ⟨rfl,rfl,rfl⟩
 refine leaves_cons (f:=91) (args:=#[.pointer (some ⟨b,3,none⟩)]) (by simp[settle]) (by simp[go_sem]) ?_
 refine(ya1 ⟨b,3,none⟩ _ _ (zs0 hb3 rfl) (ynz hb3)).mono ?_
 rintro e u' w'' ⟨rfl,rfl,rfl⟩
 simp[Leaves,settle,results,Tryz.results75]
 exact⟨q,c,w2,hP,rfl⟩
set_option maxHeartbeats 4000000 in
theorem lz_do(bp b:Nat)(hne:bp≠b)(w:World)(h1:w.heap[bp]? = some (.cells #[.pointer (some ⟨b,0,none⟩)] 126 (0,0)))(h2:w.heap[b]? = some (.cells (csLz (.slice none 0 0) 0 0).toArray 165 (0,0))) :
  Calls Tryz.prog 60 #[.pointer (some ⟨b,2,none⟩),.func (.func 64) #[] #[.pointer (some ⟨bp,0,none⟩)]] w λe w'=>e=.returned (.tuple #[])/\∃q c w2,ydl bp b (w.setCell ⟨b,3,none⟩ (.int .i32 1)) w2 q c/\w'=(w2.drew.setCell ⟨b,2,none⟩ (.int .u32 1)).setCell ⟨b,3,none⟩ (.int .i32 0):=by
 have hl:=run_call_load (P:=Tryz.prog) Tryz.func89 (by kernel_rfl) (by kernel_rfl) (by kernel_rfl) .u32 (by kernel_rfl) (w:=w) (a:=⟨b,2,none⟩) (x:=0) (zs0 h2 rfl)
 have hnot:∀(x:Bool) (w:World),(Op.unary .not (.bool x)).run Tryz.prog w=.ok (.bool (!x)) w:=λ_ _=>rfl
 go_enter Tryz.func60,Tryz.ntmps60
 go_wp2_with (first|(go_at_call 75;refine(ynh bp b hne _ h1 h2).mono ?_;rintro e w' ⟨rfl,q,c,w2,hP,rfl⟩)|(go_at_call 74;go_in))
 go_end0
 exact⟨rfl,q,c,w2,hP,rfl⟩
def ctrT:Ctr:=⟨1,λ_=>4,ptsT⟩
def shP:Shp:=.mk 2 ⟨0,0⟩ ⟨0,0⟩ ⟨0,0⟩ 0 ctrT 0 (λ_=>false) (λ_=>.nil)
theorem shP_B:ShB shP:=⟨⟨by decide,λi hi=>by show(4:Nat)<=_;decide⟩,by decide,λi hi=>absurd hi (Nat.not_lt_zero i)⟩
theorem shP_C:PdC (toSh shP):=by
 unfold PdC;rw[za7]
 have e:cntS shP=0:=rfl
 omega
noncomputable def rowO:Dyn.DC:=.row (1+0) (leG 1 (λ_=>true) (λ_=>toSh shP) (λ_=>toSh shP))
theorem less_T:Dyn.zav Tryz.prog 45 [dvL (mkL 1 (λ_=>true) (λ_=>toSh shP)),.one (.row 0 (leH λ_=>toSh shP))] (.val (.one rowO)):=
 yhd 1 (λ_=>true) (λ_=>toSh shP) 0 (λ_=>toSh shP) (by decide) (λi hi=>⟨zl0 shP_B,shP_C⟩) (λi hi=>absurd hi (Nat.not_lt_zero i))
theorem ym3:DLe objT (.row 1 (mkL 1 (λ_=>true) (λ_=>toSh shP)).f):=DLe.rowL λi _=>⟨.refl _,.refl _,.refl _,.refl _,.refl _,.refl _,.refl _,.refl _,.refl _,.refl _,DLe.rowL λj hj=>absurd hj (Nat.not_lt_zero j),trivial⟩
def csE(q:Value):List Value:=((csLz q 1 1).set 2 (.int .u32 1)).set 3 (.int .i32 0)
def stE:Dyn.St:={slots:=.junk::.v (.pointer (some ⟨0,0,none⟩))::List.replicate 21 .junk,heap:=[some (.cells 126 [.pointer (some ⟨1,0,none⟩)]),some (.cells 165 (csE (.slice (some ⟨2,0,some 0⟩) 1 0))),some (.deep [objT])]}
noncomputable def tdLz2:List Dyn.zb2:=[(45,enCs [([.one objT,.one (.row 0 λ_=>[])],.val (.one rowO))])]
noncomputable def z14:Dyn.Tabs:={tab0 with cl:=true,dres:=λn=>Nat.beq n 45,dty:=λ_=>true,td:=Dyn.tdOf tdLz2}
noncomputable def regE:Code:=match Tryz.f44.body with
 |some (.seq _ (.seq _ (.seq r _)))=>r
 |_=>.skip
noncomputable def outE:Dyn.Out:=Dyn.zbm Tryz.prog z14 Dyn.noLp 3 regE .leaf stE
theorem yd6:∀e∈tdLz2,Dyn.zbu Tryz.prog e:=List.forall_mem_cons.2 ⟨zdm (List.forall_mem_cons.2 ⟨yiv (show DVd (.one objT) (dvL (mkL 1 (λ_=>true) (λ_=>toSh shP)))from ym3) (show DVd (.one (.row 0 λ_=>[])) (.one (.row 0 (leH λ_=>toSh shP)))from DLe.rowL λj hj=>absurd hj (Nat.not_lt_zero j)) less_T,λ_ h=>by cases h⟩),λ_ h=>by cases h⟩
theorem z8x:Dyn.zal Tryz.prog z14:=by
 constructor
 case td=>exact Dyn.zhw yd6
 case tb=>intro K args v ps h;simp[tab0,z14]at h
 all_goals (intros;simp_all [tab0,z14])
theorem outE_s:lfEx outE=.normal/\Dyn.resN Tryz.prog Tryz.f44.results (lfSt outE)=some (.v (.tuple #[.slice (some ⟨7,0,some 0⟩) 1 0,.int .i64 0,.int .i64 0]))/\(lfSt outE).heap.getD 7 none=some (.deep [rowO]):=by
 refine⟨?_,?_,?_⟩<;>kernel_rfl
theorem ym0:isLf outE=true:=by kernel_rfl
theorem ymn(bp b:Nat)(hne:bp≠b)(wE:World)(q:Addr)(c:Nat)(F:Nat->Prop)(hF:∀x,F x->x<wE.heap.size/\Dyn.zar wE x)(hFb:¬F b)(hFp:¬F bp)
  (h1:wE.heap[bp]? = some (.cells [Value.pointer (some ⟨b,0,none⟩)].toArray 126 (0,0))) (h2:wE.heap[b]? = some (.cells (csE (.slice (some q) 1 c)).toArray 165 (0,0))) (hd:Dyn.DenC wE F objT (.slice (some q) 1 c))
  (a:Act) (ha:a.tmps.size=23) (hdf:a.defers=[]) (ht1:a.tmps[1]? = some (.pointer (some ⟨bp,0,none⟩))) {Q:Exit->Act->World->Prop}
  (hk:∀(a':Act) (w':World) (u:Value),a'.defers=[]->(results Tryz.f44 a'.tmps).run Tryz.prog w'=.ok (.tuple #[u,.int .i64 0,.int .i64 0]) w'->Dyn.DenC w' (λx=>F x\/(wE.heap.size<=x/\x<w'.heap.size/\Dyn.zar w' x)) rowO u->
   w'.os=wE.os->w'.tape=wE.tape->w'.output=wE.output->wE.heap.size<=w'.heap.size->(∀k,k<wE.heap.size->k≠bp->k≠b->w'.heap[k]? = wE.heap[k]?)->Q .normal a' w'):regE.wp Tryz.prog Q a wE:=by
 let β0:Dyn.Env:=λi=>(bif Nat.beq i 0 then bp else b,λ_=>.slice (some q) 1 c)
 let w0:Dyn.Base Tryz.prog:=⟨wE,F,λx hx=>(hF x hx).1,[bp,b],λx hx hf=>by
  rcases List.mem_cons.1 hx with rfl|hx
  ·exact hFp hf
  ·rw[List.mem_singleton]at hx;subst hx;exact hFb hf,λx hx=>(hF x hx).2,λ_=>False,λ_ h=>h.elim,β0,λ_=>False⟩
 have hat:∀n he,stE.heap.getD n none=some he->(n=0/\he=.cells 126 [.pointer (some ⟨1,0,none⟩)])\/(n=1/\he=.cells 165 (csE (.slice (some ⟨2,0,some 0⟩) 1 0)))\/(n=2/\he=.deep [objT]):=λn he hn=>by
  match n,hn with
  |0,hn=>exact .inl ⟨rfl,by simpa [stE]using hn.symm⟩
  |1,hn=>exact .inr (.inl ⟨rfl,by simpa [stE]using hn.symm⟩)
  |2,hn=>exact .inr (.inr ⟨rfl,by simpa [stE]using hn.symm⟩)
  |n+3,hn=>simp[stE]at hn
 have m0:Dyn.Mem w0 β0 stE.heap wE:=by
  refine⟨λn he hn=>?_,λn k x d y hn hk hx hy=>?_,λn t' cs' hn v hv z hz=>?_,λ_ _=>rfl,⟨rfl,rfl,rfl,Nat.le_refl _,λ_ _ _=>rfl⟩,λn v i hn=>?_⟩
  ·rcases hat n he hn with⟨rfl,rfl⟩|⟨rfl,rfl⟩|⟨rfl,rfl⟩
   ·exact⟨h1,.inr (by show bp∈[bp,b];simp)⟩
   ·exact⟨h2,.inr (by show b∈[bp,b];simp)⟩
   ·intro j d hj
    match j,hj with
    |0,hj=>
     simp only[List.getElem?_cons_zero,Option.some.injEq]at hj;subst hj
     exact Dyn.DenC.mono (λx hx=>⟨.inl hx,rfl⟩) hd
    |j+1,hj=>simp at hj
  ·rcases hat n x hn with⟨rfl,rfl⟩|⟨rfl,rfl⟩|⟨rfl,rfl⟩
   ·rcases hat k d hk with⟨rfl,rfl⟩|⟨rfl,rfl⟩|⟨rfl,rfl⟩
    ·rfl
    ·simp only[Dyn.zc8,Option.some.injEq]at hx hy
     exact absurd (show bp=b from(show bp=y from hx).trans (show b=y from hy).symm) hne
    ·cases hy
   ·rcases hat k d hk with⟨rfl,rfl⟩|⟨rfl,rfl⟩|⟨rfl,rfl⟩
    ·simp only[Dyn.zc8,Option.some.injEq]at hx hy
     exact absurd (show bp=b from(show bp=y from hy).trans (show b=y from hx).symm) hne
    ·rfl
    ·cases hy
   ·cases hx
  ·rcases hat n _ hn with⟨rfl,e⟩|⟨rfl,e⟩|⟨rfl,e⟩
   ·simp only[Dyn.HE.cells.injEq]at e
    obtain⟨rfl,rfl⟩:=e
    simp only[List.mem_singleton]at hv;subst hv
    simp only[Dyn.zaz,Dyn.zbc,List.mem_singleton]at hz;subst hz
    exact⟨_,rfl⟩
   ·simp only[Dyn.HE.cells.injEq]at e
    obtain⟨rfl,rfl⟩:=e
    have hz2:z=2:=by
     simp only[csE,csLz,List.set,List.mem_cons,List.not_mem_nil,or_false]at hv
     rcases hv with rfl|rfl|rfl|rfl|rfl|rfl|rfl|rfl|rfl<;>simp[Dyn.zaz,Dyn.zbc]at hz
     exact hz
    subst hz2
    exact⟨_,rfl⟩
   ·cases e
  ·rcases hat n _ hn with⟨_,e⟩|⟨_,e⟩|⟨_,e⟩<;>cases e
 have hj:∀i,i≠1->stE.slots.getD i .junk=.junk:=λi hi=>by
  match i,hi with
  |0,_=>rfl
  |i+2,_=>
   simp only[stE,List.getD_eq_getElem?_getD,List.getElem?_cons_succ,List.getElem?_replicate]
   split<;>rfl
 have m:Dyn.M w0 β0 stE a wE:=by
  refine {defers:=hdf,anc:=λh=>(by cases h),size:=by rw[ha];rfl,slot:=λi u hu=>?_,locs:=λi n hn=>?_,mem:=m0,tie:=λp hp=>(by cases hp)}
  ·by_cases hi:i=1
   ·subst hi
    rw[ht1]at hu;cases hu
    exact rfl
   ·rw[hj i hi];trivial
  ·by_cases hi:i=1
   ·subst hi
    have hn':n∈Dyn.names (.v (.pointer (some ⟨0,0,none⟩))):=hn
    simp only[Dyn.names,Dyn.refs,Dyn.zbk,Dyn.zaz,Dyn.zbc,List.mem_singleton]at hn';subst hn'
    exact⟨_,rfl⟩
   ·rw[hj i hi]at hn;cases hn
 have ng:Dyn.NoG stE:=by
  intro x hx
  simp only[stE,List.mem_cons,List.mem_replicate]at hx
  rcases hx with rfl|rfl|⟨_,rfl⟩<;>rfl
 obtain⟨o1,o2,o3⟩:=outE_s
 refine Dyn.zd3 (fuel:=3) z8x mo regE (Dyn.zcl _ w0) .leaf stE Q a wE β0 m ng (F:=λe s=>e=.normal/\Dyn.resN Tryz.prog Tryz.f44.results s=some (.v (.tuple #[.slice (some ⟨7,0,some 0⟩) 1 0,.int .i64 0,.int .i64 0]))/\s.heap.getD 7 none=some (.deep [rowO])) (z3g (o:=outE) ym0 ⟨o1,o2,o3⟩) λe s β' a' w' m' _ hl=>?_
 obtain⟨rfl,r1,r2⟩:=hl
 obtain⟨u,u1,u2,_,_⟩:=Dyn.zte m' r1
 have hu:u=.tuple #[(β' 7).2 0,.int .i64 0,.int .i64 0]:=u2 []
 rw[hu]at u1
 have hbe:=m'.mem.below
 refine hk a' w' _ m'.defers u1 (Dyn.DenC.mono (λx hx=>⟨?_,rfl⟩) (m'.mem.ok 7 _ r2 0 rowO rfl)) hbe.os hbe.tape hbe.output hbe.size (λk hk1 hk2 hk3=>hbe.block k hk1 (by show ¬k∈[bp,b];simp[hk2,hk3]))
 rcases hx with hx|hx
 ·exact .inl hx
 ·exact .inr ⟨hx.1,hx.2.1⟩
set_option maxHeartbeats 4000000 in
theorem z5y(b:Nat)(w:World)(h2:w.heap[b]? = some (.cells (csLz (.slice none 0 0) 0 0).toArray 165 (0,0))) :
  Calls Tryz.prog 44 #[.pointer (some ⟨b,0,none⟩)] w λe w'=>∃u,e=.returned (.tuple #[u,.int .i64 0,.int .i64 0])/\Dyn.DenC w' (NewB w w') rowO u/\Dyn.ButB b w w':=by
 have hb:b<w.heap.size:=by
  rcases Nat.lt_or_ge b w.heap.size with z|z
  ·exact z
  ·rw[Array.getElem?_eq_none z]at h2;cases h2
 have hmf:∀(fn:Fn) (first cap:Array Value) (w:World),(Instr.makeFunc fn first cap).run Tryz.prog w=.ok (.func fn first cap) w:=λ_ _ _ _=>rfl
 have a1:(w.alloc (.cells #[.pointer (some ⟨b,0,none⟩)] 126)).heap[w.heap.size]? = some (.cells #[.pointer (some ⟨b,0,none⟩)] 126 (0,0)):=by
  show(w.heap.push _)[w.heap.size]? = _
  rw[Array.getElem?_push,if_pos rfl]
 have a2:(w.alloc (.cells #[.pointer (some ⟨b,0,none⟩)] 126)).heap[b]? = some (.cells (csLz (.slice none 0 0) 0 0).toArray 165 (0,0)):=by
  show(w.heap.push _)[b]? = _
  rw[Array.getElem?_push,if_neg (by omega)];exact h2
 have p0:(w.alloc (.cells #[.pointer (some ⟨b,0,none⟩)] 126)).cell? ⟨w.heap.size,0,none⟩=some (.pointer (some ⟨b,0,none⟩)):=zs0 (l:=[.pointer (some ⟨b,0,none⟩)]) a1 rfl
 go_enter Tryz.func44,Tryz.ntmps44
 go_wp2_with (go_at_call 60;refine(lz_do w.heap.size b (by omega) _ a1 a2).mono ?_;rintro e w' ⟨rfl,q,c,w2,hP,rfl⟩)
 have hS:∀k,k<w.heap.size+1->k≠b->w2.heap[k]? = (w.alloc (.cells #[.pointer (some ⟨b,0,none⟩)] 126)).heap[k]?:=λk hk hkb=>(hP.block k (by rw[World.size_setCell,World.size_alloc];exact hk) hkb).trans (Dyn.zq0 hkb)
 have hz:w.heap.size+1<=w2.heap.size:=by have:=hP.size;rw[World.size_setCell,World.size_alloc]at this;exact this
 have hden0:=hP.den
 have hos:=hP.os
 have htp:=hP.tape
 have hout:=hP.output
 have hblk:=hP.blk
 generalize hE:(w2.drew.setCell ⟨b,2,none⟩ (.int .u32 1)).setCell ⟨b,3,none⟩ (.int .i32 0)=wE
 have eb:wE.heap[b]? = some (.cells (((csLz (.slice (some q) 1 c) 1 1).set 2 (.int .u32 1)).set 3 (.int .i32 0)).toArray 165 (0,0)):=by rw[←hE];exact setA (setA (w:=w2.drew) hblk)
 have eo:∀k,k≠b->wE.heap[k]? = w2.heap[k]?:=λk hk=>by rw[←hE];exact(Dyn.zq0 hk).trans (Dyn.zq0 (w:=w2.drew) hk)
 have ez:wE.heap.size=w2.heap.size:=by rw[←hE,World.size_setCell,World.size_setCell];rfl
 have ebp:wE.heap[w.heap.size]? = some (.cells [Value.pointer (some ⟨b,0,none⟩)].toArray 126 (0,0)):=(eo _ (by omega)).trans ((hS _ (by omega) (by omega)).trans a1)
 have hden:Dyn.DenC wE.drew (NewB w wE.drew) objT (.slice (some q) 1 c):=Dyn.DenC.mono (λx hx=>by
  obtain⟨x1,x2,x3⟩:=hx
  rw[World.size_setCell,World.size_alloc]at x1
  have hxe:wE.heap[x]? = w2.heap[x]?:=eo x (by omega)
  exact⟨⟨by omega,by show x<wE.heap.size;rw[ez];exact x2,x3.of hxe⟩,hxe⟩) hden0
 have eos:wE.os=w.os:=by rw[←hE];exact hos
 have etp:wE.tape=w.tape:=by rw[←hE];exact htp
 have eout:wE.output=w.output:=by rw[←hE];exact hout
 have cb6:wE.drew.cell? ⟨b,6,none⟩=some (.slice (some q) 1 c):=zs0 (w:=wE.drew) eb rfl
 have cb7:wE.drew.cell? ⟨b,7,none⟩=some (.int .i64 0):=zs0 (w:=wE.drew) eb rfl
 have cb8:wE.drew.cell? ⟨b,8,none⟩=some (.int .i64 0):=zs0 (w:=wE.drew) eb rfl
 have cbp:wE.drew.cell? ⟨w.heap.size,0,none⟩=some (.pointer (some ⟨b,0,none⟩)):=zs0 (w:=wE.drew) ebp rfl
 have hzb:b<wE.drew.heap.size:=by show b<wE.heap.size;omega
 have hzp:w.heap.size<wE.drew.heap.size:=by show _<wE.heap.size;omega
 have fin:∀(w3:World) (u:Value),Dyn.DenC w3 (λx=>NewB w wE.drew x\/(wE.drew.heap.size<=x/\x<w3.heap.size/\Dyn.zar w3 x)) rowO u->Below wE.drew.heap.size wE.drew w3->Dyn.DenC w3 (NewB w w3) rowO u/\Dyn.ButB b w w3:=λw3 u hd hB=>by
  have hs3:wE.heap.size<=w3.heap.size:=hB.size
  refine⟨Dyn.DenC.mono (λx hx=>⟨?_,rfl⟩) hd,⟨hB.os.trans eos,hB.tape.trans etp,hB.output.trans eout,by omega,λk hk hkb=>?_⟩⟩
  ·rcases hx with⟨x1,x2,x3⟩|⟨x1,x2,x3⟩
   ·exact⟨x1,by have:x<wE.heap.size:=x2;omega,x3.of (hB.block x x2)⟩
   ·exact⟨by have:wE.heap.size<=x:=x1;omega,x2,x3⟩
  ·refine(hB.block k (by show k<wE.heap.size;omega)).trans ((eo k hkb).trans ((hS k (by omega) hkb).trans ?_))
   show(w.heap.push _)[k]? = _
   rw[Array.getElem?_push,if_neg (by omega)]
 have hden2:Dyn.DenC wE (λx=>w.heap.size+1<=x/\x<wE.heap.size/\Dyn.zar wE x) objT (.slice (some q) 1 c):=Dyn.DenC.mono (λx hx=>by
  obtain⟨x1,x2,x3⟩:=hx
  rw[World.size_setCell,World.size_alloc]at x1
  have hxe:wE.heap[x]? = w2.heap[x]?:=eo x (by omega)
  exact⟨⟨x1,by rw[ez];exact x2,x3.of hxe⟩,hxe⟩) hden0
 have key:=λ(a:Act) (ha:a.tmps.size=23) (hdf:a.defers=[]) (ht1:a.tmps[1]? = some (.pointer (some ⟨w.heap.size,0,none⟩))) (Q:Exit->Act->World->Prop)=>ymn w.heap.size b (by omega) wE q c (λx=>w.heap.size+1<=x/\x<wE.heap.size/\Dyn.zar wE x) (λx hx=>⟨hx.2.1,hx.2.2⟩) (λhx=>by have:=hx.1;omega) (λhx=>by have:=hx.1;omega) ebp eb hden2 a ha hdf ht1 (Q:=Q)
 clear cb6 cb7 cb8 cbp fin hden hden0 hden2
 subst hE
 refine key _ rfl rfl rfl _ (λa' w' u hdf hres hd hos3 htp3 hout3 hsz3 hblk3=>?_)
 have hfin:Dyn.DenC w' (NewB w w') rowO u/\Dyn.ButB b w w':=by
  refine⟨Dyn.DenC.mono (λx hx=>⟨?_,rfl⟩) hd,⟨hos3.trans eos,htp3.trans etp,hout3.trans eout,by omega,λk hk hkb=>?_⟩⟩
  ·rcases hx with⟨x1,x2,x3⟩|⟨x1,x2,x3⟩
   ·have hxb:x≠b:=by omega
    by_cases hxp:x=w.heap.size
    ·omega
    ·exact⟨by omega,by omega,x3.of (hblk3 x x2 hxp hxb)⟩
   ·exact⟨by omega,x2,x3⟩
  ·refine(hblk3 k (by omega) (by omega) hkb).trans ((eo k hkb).trans ((hS k (by omega) hkb).trans ?_))
   show(w.heap.push _)[k]? = _
   rw[Array.getElem?_push,if_neg (by omega)]
 rename_i hK0
 refine hK0 a' w' ?_
 exact wp_ret ⟨hdf,_,hres,u,rfl,hfin.1,hfin.2⟩
theorem zxr:Dyn.zlp Tryz.prog 44 [.lp 0 0] 165 (csLz (.slice none 0 0) 0 0) (.tup [.one rowO,dvI 0,dvI 0]):=λw F b us _ _ h hd=>by
 have hus:us=[Value.pointer (some ⟨b,0,none⟩)]:=by
  match us,hd with
  |[u],hd=>
   obtain⟨⟨b',h1,h2⟩,_⟩:=hd
   simp only[List.getElem?_cons_zero,Option.some.injEq]at h1
   subst h1;subst h2;rfl
  |_::_::_,hd=>exact hd.2.elim
 subst hus
 have hr:(callFunc 44 #[Value.pointer (some ⟨b,0,none⟩)]).run Tryz.prog w=.ok (.enter 44 #[Value.pointer (some ⟨b,0,none⟩)]) w:=by
  unfold callFunc
  simp only[Sem.run_bind,run_program,Result.andThen_ok,Tryz.func44]
  simp[show(Tryz.prog.funcs[44]?)=some Tryz.f44 from Tryz.func44,show Tryz.f44.body.isNone=false by kernel_rfl,show(Tryz.f44.name=="runtime.NumGoroutine")=false by kernel_rfl]
 rw[show([Value.pointer (some ⟨b,0,none⟩)]).toArray = #[Value.pointer (some ⟨b,0,none⟩)]from rfl,hr]
 refine⟨rfl,(z5y b w h).mono ?_⟩
 rintro e w' ⟨u,rfl,hd,hB⟩
 exact⟨_,rfl,⟨_,rfl,Dyn.DenC.mono (λ_ hx=>⟨.inr hx,rfl⟩) hd,.p _ rfl,.p _ rfl,trivial⟩,hB⟩
end Go.Proofs.YtmekpbopoknigaaGreatDoor
