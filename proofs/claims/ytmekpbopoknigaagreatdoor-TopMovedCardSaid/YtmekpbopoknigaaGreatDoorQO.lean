import Derived.Test.YtmekpbopoknigaaGreatDoorQL
import Derived.RangeFuncNested
import Derived.RangeFuncBound
import Derived.RangeFuncCalls
import Derived.RangeFuncLeaves
import Derived.RangeFuncBox
import Derived.Shelf.Abstract
import Derived.Shelf.RegionOpen
import Derived.WalkKit
import Derived.OwnWalkIn
import Derived.TacticsInMore
import Derived.LoopNIn
import Derived.LoopIn
import Derived.Deep.WholeRow
import Derived.Test.YtmekpbopoknigaaGreatDoorQN
import Derived.Test.YtmekpbopoknigaaGreatDoorQM
namespace Go.Proofs.YtmekpbopoknigaaGreatDoor
open Go Go.RowKit Go.Shelf
set_option maxRecDepth 100000
attribute [local go_sem] Oper.semAt_some
def Objs(n₀:Nat)(W:World)(oa:Option Addr)(len:Nat)(g:Nat->Nat->Value):Prop:=
 len=0\/∃b off,oa=some ⟨b,off,none⟩/\b<n₀/\∀i,i<len->∀j,j<11->W.cell? ⟨b,off+i*11+j,none⟩=some (g i j)
theorem Objs.below{n₀:Nat}{A B:World}(h:Below n₀ A B){oa:Option Addr}{len:Nat}{g:Nat->Nat->Value}:Objs n₀ A oa len g->Objs n₀ B oa len g
 |.inl e=>.inl e
 |.inr ⟨b,off,e,hb,hc⟩=>.inr ⟨b,off,e,hb,λi hi j hj=>(h.cell (p:=⟨b,off+i*11+j,none⟩) hb).trans (hc i hi j hj)⟩
end Go.Proofs.YtmekpbopoknigaaGreatDoor
namespace Go.Proofs.YtmekpbopoknigaaGreatDoor
open Go Go.RowKit Go.Shelf
set_option maxRecDepth 100000
attribute [local go_sem] Oper.semAt_some
end Go.Proofs.YtmekpbopoknigaaGreatDoor
namespace Go.Proofs.YtmekpbopoknigaaGreatDoor
open Go Go.RowKit Sym
set_option maxRecDepth 100000
theorem z5p{w:World}{F:Nat->Prop}{d:Dyn.DC}{u:Value}(h:Dyn.DenC w F d u):u.oneCell'=true:=by
 have:=h.one
 cases u<;>simp_all [zag,Value.oneCell']
theorem yif{P:Program}{K:Nat}{fn:Func}(hf:P.funcs[K]? = some fn)(hb:fn.body.isNone=false)(hn:(fn.name=="runtime.NumGoroutine")=false){args:List Dyn.DV}{v:Value}(hv:zag v=true)
  (h:∀w (F:Nat->Prop) us,(∀b,F b->b<w.heap.size/\Dyn.zar w b)->Dyn.zfn w F args us->Calls P K us.toArray w (λe w'=>e=.returned v/\Below w.heap.size w w')):Dyn.zav P K args (.val (.one (.p v))):=λw F us hF hd=>by
 have hr:(callFunc K us.toArray).run P w=.ok (.enter K us.toArray) w:=by
  unfold callFunc
  simp only[Sem.run_bind,run_program,Result.andThen_ok,hf,hn,hb]
  simp
 rw[hr]
 exact⟨rfl,(h w F us hF hd).mono λe w' ⟨he,hB⟩=>⟨v,he,.p _ hv,hB⟩⟩
end Go.Proofs.YtmekpbopoknigaaGreatDoor
namespace Go.Proofs.YtmekpbopoknigaaGreatDoor
open Go Go.RowKit Sym
end Go.Proofs.YtmekpbopoknigaaGreatDoor
namespace Go.Proofs.YtmekpbopoknigaaGreatDoor
open Go Go.RowKit Sym
set_option maxRecDepth 100000
inductive DLe:Dyn.DC->Dyn.DC->Prop where
 |refl (c:Dyn.DC):DLe c c
 |row (n:Nat) (f g:Nat->List Dyn.DC):(∀i,i<n->(f i).length=(g i).length)->(∀i j,i<n->j<(f i).length->DLe ((f i).getD j default) ((g i).getD j default))->DLe (.row n f) (.row n g)
theorem DLe.den{w:World}{F:Nat->Prop}{c d:Dyn.DC}(h:DLe c d):∀{u:Value},Dyn.DenC w F c u->Dyn.DenC w F d u:=by
 induction h with
 |refl c=>exact λh=>h
 |row n f g hl _ ih=>
  intro u k
  cases k with
  |nil _ oa cap=>exact .nil g oa cap
  |row _ _ b off cap size V hk hF hc hd=>
   refine .row n g b off cap size V hk hF (λi hi=>⟨(hl i hi)▸(hc i hi).1,(hc i hi).2⟩) (λi j hi hj=>ih i j hi ?_ (hd i j hi hj))
   rw[(hc i hi).1];exact hj
def DLL:List Dyn.DC->List Dyn.DC->Prop
 |[],[]=>True
 |c::cs,d::ds=>DLe c d/\DLL cs ds
 |_,_=>False
theorem DLL.refl:∀cs,DLL cs cs
 |[]=>trivial
 |c::cs=>⟨.refl c,DLL.refl cs⟩
theorem DLL.den{w:World}{F:Nat->Prop}:∀{cs ds:List Dyn.DC} {us:List Value},DLL cs ds->Dyn.DenL w F cs us->Dyn.DenL w F ds us
 |[],[],[],_,h=>h
 |[],[],_::_,_,h=>h
 |[],_::_,_,h,_=>h.elim
 |_::_,[],_,h,_=>h.elim
 |c::cs,d::ds,[],_,k=>k.elim
 |c::cs,d::ds,u::us,h,k=>⟨h.1.den k.1,DLL.den h.2 k.2⟩
theorem DLL.get:∀{cs ds:List Dyn.DC},DLL cs ds->cs.length=ds.length/\∀j,DLe (cs.getD j default) (ds.getD j default)
 |[],[],_=>⟨rfl,λj=>.refl _⟩
 |[],_::_,h=>h.elim
 |_::_,[],h=>h.elim
 |c::cs,d::ds,h=>by
  have k:=DLL.get h.2
  exact⟨congrArg Nat.succ k.1,λj=>match j with
   |0=>h.1
   |j+1=>k.2 j⟩
theorem DLe.rowL{n:Nat}{f g:Nat->List Dyn.DC}(h:∀i,i<n->DLL (f i) (g i)):DLe (.row n f) (.row n g):=.row n f g (λi hi=>(h i hi).get.1) (λi j hi _=>(h i hi).get.2 j)
def DVd:Dyn.DV->Dyn.DV->Prop
 |.one c,.one d=>DLe c d
 |.agg cs,.agg ds=>DLL cs ds
 |_,_=>False
theorem DVd.refl:∀v,DVd v v
 |.one c=>DLe.refl c
 |.agg cs=>DLL.refl cs
theorem DVd.den{w:World}{F:Nat->Prop}:∀{c d:Dyn.DV} {u:Value},DVd c d->Dyn.DenV w F c u->Dyn.DenV w F d u
 |.one _,.one _,_,h,k=>DLe.den h k
 |.agg _,.agg _,_,h,⟨us,e,k⟩=>⟨us,e,DLL.den h k⟩
 |.one _,.agg _,_,h,_=>h.elim
 |.agg _,.one _,_,h,_=>h.elim
theorem zwi{P:Program}{K:Nat}{v v':Dyn.DV}{l:List Dyn.DV}{r:Dyn.RV}(h:DVd v v')(k:Dyn.zav P K (v'::l) r):Dyn.zav P K (v::l) r:=λw F us hF hd=>k w F us hF (by
 cases us with
 |nil=>exact hd
 |cons u us=>exact⟨DVd.den h hd.1,hd.2⟩)
theorem yiv{P:Program}{K:Nat}{v v' w w':Dyn.DV}{l:List Dyn.DV}{r:Dyn.RV}(h:DVd v v')(h2:DVd w w')(k:Dyn.zav P K (v'::w'::l) r):Dyn.zav P K (v::w::l) r:=λww F us hF hd=>k ww F us hF (by
 cases us with
 |nil=>exact hd
 |cons u us=>exact(by
  cases us with
  |nil=>exact⟨DVd.den h hd.1,hd.2⟩
  |cons u2 us=>exact⟨DVd.den h hd.1,DVd.den h2 hd.2.1,hd.2.2⟩))
end Go.Proofs.YtmekpbopoknigaaGreatDoor
