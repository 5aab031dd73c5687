/- Joined: CoF, CoG, CoH, CoI, CoJ, PkA, ShaA, NumA, CoK, PkB, PkC, CrcA, PgA, PkD, PkE, NodA, RdA, NodB, NodC, NodD, NodE, NodF. -/
import Derived.Test.YtmapagggnigfpaaGreatDn12
import Derived.ChangeCalls
set_option linter.unusedVariables false
set_option linter.unusedSimpArgs false
namespace Go.Cn
open Go.ChangeShapes Go.WideShapes Go.ChangeAt Go.RowKit
section
variable {P:Program} {H:Type} {enc:TI×Value->H} {w:World} {B:DataW H->Nat}
theorem oN{sp:Nat->Bool}:∀(n m:Nat) (t:TI) (cs:LV) (x:DataW H×List MemPlace),fT P m t=true->DataW.trod enc P w 0 (fun _=>true) true n t cs=some x->
  (∀p∈x.2,sp p.block=true)->DataW.trod enc P w 0 sp true n t cs=some x
 | 0,m,t,cs,x,_,E,_=>by simp[DataW.trod]at E
 | n+1,0,t,cs,x,hs,_,_=>by simp[fT]at hs
 | n+1,m+1,t,cs,x,hs,E,hp=>by
  unfold fT at hs
  split at hs
  ·rename_i hu
   obtain⟨b,rfl,rfl⟩:=DataW.trod_bool hu E;simp[DataW.trod,hu]
  ·rename_i k hu
   obtain⟨i,rfl,rfl,hw⟩:=DataW.trod_int hu E;simp[DataW.trod,hu,hw]
  ·rename_i hu
   obtain⟨s,rfl,rfl,W⟩:=DataW.trod_string hu E;simp[DataW.trod,hu,W]
  ·rename_i fs hu
   simp only[Uw]at hs;unfold DataW.trod at E ⊢;rw[hu]at E ⊢;simp only at E ⊢
   split at E
   ·rename_i hl
    rw[if_pos hl]
    cases hm:fs.toList.mapM fun f=>DataW.trod enc P w 0 (fun _=>true) true n f.type ((cs.drop f.offset).take (P.cellsOf f.type)) with
    | none=>simp[hm]at E
    | some xs =>
     simp only[hm,Uv,Um]at E;subst E;rw[mapM_carry hm fun f y hf G aa=>oN n m f.type _ y (VK.mp hs.2 f hf) aa fun p O=>hp p (WX.mpr ⟨y,G,O⟩)]
     rfl
   ·simp at E
  ·rename_i e hu
   simp only[Uw,decide_eq_true_eq]at hs;obtain⟨⟨_,U⟩,hs⟩:=hs;unfold DataW.trod at E ⊢;rw[hu]at E ⊢
   cases cs with
   | nil=>simp at E
   | cons c cs =>
   cases cs with
   | cons c' cs=>cases c <;> simp at E
   | nil =>
   cases c with
   | slice a l c =>
    cases a with
    | none =>
     cases l with
     | succ l=>simp at E
     | zero=>cases c with
      | succ c=>simp at E
      | zero=>simpa using E
    | some a =>
     simp only at E ⊢
     split at E
     ·rename_i hc
      rw[if_pos hc]
      cases hm:(List.range l).mapM fun i=>(w.cells? 0 (a.add (i * P.cellsOf e)) (P.cellsOf e)).bind (DataW.trod enc P w 0 (fun _=>true) true n e) with
      | none=>simp[hm]at E
      | some elems =>
       cases hr:(List.range (c - l)).mapM fun j=>(w.cells? 0 (a.add ((l+j) * P.cellsOf e)) (P.cellsOf e)).bind (DataW.trod enc P w 0 (fun _=>true) true n e) with
       | none=>simp[hm,hr]at E
       | some rest =>
        simp only[hm,hr,if_true,Ul,Uv,Um]at E;subst E;have carry:∀{i:Nat} {y:DataW H×List MemPlace},(∀p∈y.2,sp p.block=true)->(w.cells? 0 (a.add (i * P.cellsOf e)) (P.cellsOf e)).bind (DataW.trod enc P w 0 (fun _=>true) true n e)=some y->
          (w.cells? 0 (a.add (i * P.cellsOf e)) (P.cellsOf e)).bind (DataW.trod enc P w 0 sp true n e)=some y:=by
         intro i y G hb;obtain⟨ck,h1,h2⟩:=WT.1 hb;rw[h1];exact oN n m e ck y hs h2 G
        have V:∀y,y∈elems++rest->∀p∈y.2,sp p.block=true:=fun y G p O=>hp p (List.mem_append_right _ (WX.mpr ⟨y,G,O⟩));have h1:((List.range l).mapM fun i=>(w.cells? 0 (a.add (i * P.cellsOf e)) (P.cellsOf e)).bind (DataW.trod enc P w 0 sp true n e))=some elems :=
         mapM_carry hm fun i y _ G hb=>carry (V y (WW _ G)) hb
        rw[h1];have af:elems.length=l:=by simpa using mapM_some_length hm
        have ag:rest.length=c - l:=by simpa using mapM_some_length hr
        by_cases ac:c - l=0
        ·have:rest=[]:=VS (by omega);subst this;simp[ac]
        ·have ad:sp a.block=true:=by
          refine hp (.cell a.block (a.off+0)) (WW _ (MemPlace.mem_row.mpr ⟨0,?_,rfl⟩));exact Nat.mul_pos (by omega) U
         have h2:((List.range (c - l)).mapM fun j=>(w.cells? 0 (a.add ((l+j) * P.cellsOf e)) (P.cellsOf e)).bind (DataW.trod enc P w 0 sp true n e))=some rest :=
          mapM_carry hr fun i y _ G hb=>carry (V y (List.mem_append_right _ G)) hb
         simp[ad,h2]
     ·simp at E
   | _=>simp at E
  ·rename_i len e hu
   simp only[Uw]at hs;unfold DataW.trod at E ⊢;rw[hu]at E ⊢;simp only at E ⊢
   split at E
   ·rename_i hl
    rw[if_pos hl]
    cases hm:(List.range len).mapM fun i=>DataW.trod enc P w 0 (fun _=>true) true n e ((cs.drop (i * P.cellsOf e)).take (P.cellsOf e)) with
    | none=>simp[hm]at E
    | some xs =>
     simp only[hm,Uv,Um]at E;subst E;rw[mapM_carry hm fun i y hi G ae=>oN n m e _ y hs.2 ae fun p O=>hp p (WX.mpr ⟨y,G,O⟩)]
     rfl
   ·simp at E
  ·simp at hs
theorem GB{w':World}(hb:Below w.heap.size w w'){n m:Nat}{t:TI}{cs:LV}{x:DataW H×List MemPlace}(hs:fT P m t=true)(O:DataW.trod enc P w 0 (fun _=>true) true n t cs=some x)
  (E:∀p∈x.2,p.block < w.heap.size) {sp:Nat->Bool} (hp:∀p∈x.2,sp p.block=true):DataW.trod enc P w' 0 sp true n t cs=some x :=
 oN n m t cs x hs (DataW.trod_carry n t cs x O fun p G=>hb.same (E p G)) hp
theorem rR{w':World}(hb:Below w.heap.size w w'){m:Nat}:∀{O:List TI} {vs:LV} {U:List (DataW H)} {ps:List MemPlace},(∀t∈O,fT P m t=true)->
  DataW.TrodAll enc P w 0 (fun _=>true) true O vs U ps->(∀p∈ps,p.block < w.heap.size)->∀{sp:Nat->Bool},(∀p∈ps,sp p.block=true)->DataW.TrodAll enc P w' 0 sp true O vs U ps
 | [],[],[],ps,_,h,_,sp,_=>h
 | t::O,v::vs,d::U,ps,hs,⟨p,q,⟨n,V⟩,W,h3⟩,G,sp,hp=>by
  subst h3;exact⟨p,q,⟨n,GB hb (hs t (by simp)) V (fun x E=>G x (WW _ E)) (fun x E=>hp x (WW _ E))⟩,
   rR hb (fun t ht=>hs t (by simp[ht])) W (fun x E=>G x (List.mem_append_right _ E)) (fun x E=>hp x (List.mem_append_right _ E)),rfl⟩
def uJ(P:Program)(h:Hp)(N:Nat):List TI->LV->Prop
 | [],vs=>vs=[]
 | t::ts,vs=>∃v vs' n cs,vs=v::vs'/\fN P h N n t cs/\(match agg? P t with | some true=>v = .agg cs.toArray | _=>cs=[v])/\uJ P h N ts vs'
theorem BX{Q:TI->DataW H->Prop}(N m:Nat)(M:MeasT P N Q):∀{ts:List TI} {vs:LV} {ds:List (DataW H)} {ps:List MemPlace},(∀t∈ts,fT P m t=true)->DataW.TrodAll enc P w 0 (fun _=>true) true ts vs ds ps->(∀(j:Nat) t d,ts[j]? = some t->ds[j]? = some d->Q t d)->
  (∀(j:Nat) t v,ts[j]? = some t->vs[j]? = some v->Value.okWide P w .any 0 t v)->∀(σ:Sg) (h:Hp),HR w.heap.size σ h w->∃cE h' ac,σ.le cE/\HR w.heap.size cE h' w/\Kept h h'/\bK cE ac vs/\uJ P h' N ts ac
 | [],[],[],ps,_,_,_,_,σ,h,hr=>⟨σ,h,[],Sg.le_refl σ,hr,Keep.refl _ _,bK.nil σ,rfl⟩
 | t::ts,v::vs,d::ds,ps,hs,⟨p,q,⟨n,h1⟩,h2,h3⟩,hB,aa,σ,h,hr=>by
  have E:=aa 0 t v (by simp) (by simp);have G:∀u (x:Value),Cell.okWide P w .any 0 u x->∀a l c,x = .slice (some a) l c->0 < w.heap.size:=by
   intro u x hx a l c e;subst e;have O:Cell.ok P w .any 0 u (.slice (some a) l c):=by
    unfold Cell.okWide at hx
    split at hx <;> first | exact hx | (rename_i h;simp at h)
   unfold Cell.ok at O
   split at O <;> simp_all
   obtain⟨_,_,_,_,row,cells,U,_⟩:=O;unfold World.shape? at U
   split at U
   ·rename_i hh;have:=(VT.1 hh).1;omega
   ·simp at U
  have hz:∀a l c,Value.slice (some a) l c∈v.cells.toList->0 < w.heap.size:=by
   intro a l c hm;unfold Value.okWide at E
   split at E
   ·obtain⟨cs,rfl,_,ag,_,_,U⟩:=E;obtain⟨i,hi⟩:=WD hm;simp only[Value.cells,VR]at hi;obtain⟨u,_,h6⟩:=U i _ hi;exact G u _ h6 a l c rfl
   ·obtain⟨cs,rfl,_,ag,_,_,U⟩:=E;obtain⟨i,hi⟩:=WD hm;simp only[Value.cells,VR]at hi;obtain⟨u,_,h6⟩:=U i _ hi;exact G u _ h6 a l c rfl
   ·cases v with
    | slice a' l' c' =>
     simp[Value.cells]at hm;obtain⟨rfl,rfl,rfl⟩:=hm;exact G t _ E a l c rfl
    | agg cs =>
     have O:Cell.ok P w .any 0 t (.agg cs):=by
      unfold Cell.okWide at E
      split at E <;> first | exact E | (rename_i h;simp at h)
     unfold Cell.ok at O
     split at O <;> simp_all
    | _=>simp[Value.cells]at hm
  obtain⟨ah,ai,c1,l1,r1,k1,e1,g1⟩:=HI N M n m t v.cells.toList (d,p) (hs t (by simp)) h1 (hB 0 t d rfl rfl) hz σ h hr;obtain⟨ad,ae,V,l2,r2,k2,e2,g2⟩:=BX N m M (fun t ht=>hs t (by simp[ht])) h2 (fun j t d ht hd=>hB (j+1) t d (by simpa using ht) (by simpa using hd)) (fun j t v ht E=>aa (j+1) t v (by simpa using ht) (by simpa using E)) ah ai r1;have af:agg? P t=some true\/agg? P t≠some true:=by by_cases hx:agg? P t=some true <;> simp[hx]
  rcases af with W | W
  ·have dN:∃cs,v = .agg cs:=by
    unfold agg? at W;unfold Value.okWide at E
    split at W <;> rename_i hu <;> try (simp at W)
    ·rw[hu]at E;obtain⟨cs,U,_⟩:=E;exact⟨cs,U⟩
    ·rw[hu]at E;obtain⟨cs,U,_⟩:=E;exact⟨cs,U⟩
   obtain⟨cs,rfl⟩:=dN;refine⟨ad,ae,.agg c1.toArray::V,Sg.le_trans l1 l2,r2,k1.trans hr.wf k2 (fF),bK.cons ?_ e2,.agg c1.toArray,V,n,c1,rfl,g1.keep k2,by rw[W],g2⟩;have:=(e1.mono l2).to_agg;simpa[Value.cells]using this
  ·have dN:v.cells = #[v]:=by
    cases v with
    | agg cs =>
     exfalso
     unfold agg? at W;unfold Value.okWide at E
     cases hu:P.underlying t with
     | none =>
      rw[hu]at E;simp only[Cell.okWide,Cell.ok,hu]at E
     | some u =>
      rw[hu]at E W
      cases u <;> simp[Cell.okWide,Cell.ok,hu]at E W
    | _=>rfl
   rw[dN]at e1;have hl:=e1.1
   cases c1 with
   | nil=>simp at hl
   | cons c1 r =>
    cases r with
    | cons _ _=>simp at hl
    | nil =>
     refine⟨ad,ae,c1::V,Sg.le_trans l1 l2,r2,k1.trans hr.wf k2 (fF),bK.cons ((e1.2 0 c1 v (by simp) (by simp)).mono l2) e2,c1,V,n,[c1],rfl,g1.keep k2,?_,g2⟩
     split
     ·rename_i hx;exact absurd hx W
     ·rfl
theorem AW{Q:TI->DataW H->Prop}{f:FuncId}{fn:Func}{s:ChangeSpec}(ad:f < P.funcs.size)(N m:Nat)(M:MeasT P N Q){tb:TI}(E:∀t∈fn.params.toList,fT P m t=true)(G:s.vars=[])
  (ai:∀O:List (DataW H),O.length=fn.params.toList.length->(s.fn H O).results=[.lit (.bool true)]/\(s.fn H O).args=O/\(s.fn H O).vars=[]) (aa:fn.resultTypes = #[tb]) (ae:P.underlying tb=some .bool)
  (af:∀(h:Hp) (vs:LV),Wf h->uJ P h N fn.params.toList vs->SCalls P f vs h fun v _=>v = .bool true)
  {W:World} {base:Nat} {args:AV} {O gs:List (DataW H)} {U:List MemPlace}
  (ag:∀(j:Nat) t v,fn.params[j]? = some t->args[j]? = some v->Value.okWide P W .any base t v) (hW:DataW.Whole enc P fn.params.toList s.vars false W args.toList O gs U) (hB:∀(j:Nat) t d,fn.params.toList[j]? = some t->O[j]? = some d->Q t d) :
  Calls P f args W fun e W'=>∃v,e = .returned v/\s.post enc P fn false true false false W args v W':=by
 have ac:=hW;obtain⟨p,q,hA,hV,rfl,ap,aq⟩:=hW;rw[G]at hV;obtain⟨rfl,rfl⟩:=trodVars_none hV;have hlen:=trodAll_length hA;have V:∀(t:TI) v,Value.okWide P W .any base t v->Value.okWide P W .any 0 t v:=fun t v h=>h;obtain⟨σ,h,vs,_,hr,_,hl,hg⟩:=BX N m M E hA hB (fun j t v ht hv=>V t v (ag j t v (by simpa using ht) (by simpa using hv))) (fun _=>none) Hp.empty (AH _ W (Uf _));simp only[VJ]at ac;refine(((af h vs hr.wf hg).func ad).2 W.heap.size σ W args hr hl).mono ?_;rintro e W' ⟨v,v',h',cE,rfl,rfl,hv,_,he⟩;have:v' = .bool true:=hv.bool_inv;subst this;have hb:Below W.heap.size W W':=he.toBelow;obtain⟨aj,ak,al⟩:=ai O hlen.2;have an:∀x∈p,x.block < W.heap.size:=fun x hx=>ac.lt x (by simpa using hx);refine⟨_,rfl,AT (pa:=p) (pv:=[]) ac (fun b sp hd=>?_) (fun sp ao=>?_) (fun sp _=>?_) (by simp) hb ?_⟩
 ·simp only[VJ];rw[aj,aa];exact trodAll_cons_mk (shut_bool ae _) trodAll_mk0
 ·simp only[VJ];rw[ak];exact rR hb E hA an fun x hx=>ao x (by simpa using hx)
 ·simp only[VJ];rw[al,G];exact rfl
 ·rw[aa];intro j t r ht ah;have:j=0:=by
   cases j with
   | zero=>rfl
   | succ j=>simp at ht
  subst this;simp at ht;subst ht;have:r = .bool true:=by
   simp[Value.resultList]at ah
   first | exact ah.symm | (simp_all)
  subst this;exact okWide_bool_mk ae _
end
end Go.Cn
namespace Go.Cn
theorem take_one{α:Type}{CS:List α}{o:Nat}{v:α}(h:CS[o]? = some v):(CS.drop o).take 1=[v]:=by
 obtain⟨E,G⟩:=Us.mp h;rw[WI E,G];rfl
theorem Blk.one{h:Hp}{b:Nat}{g:ON}{CS:LV}(hb:Blk h b g CS){o:Nat}{v:Value}(E:CS[o]? = some v):h.cellsAt b o 1=some [v]:=by
 have G:=(Us.mp E).1;rw[hb.cells (by omega),take_one E]
theorem GD{CS:LV}{o:Nat}(E:o < CS.length)(v:Value):splice CS o [v]=CS.set o v:=by
 rw[List.set_eq_take_append_cons_drop,if_pos E];simp[splice]
theorem Blk.set{h:Hp}{b g:Nat}{CS:LV}(hb:Blk h b (some g) CS){o:Nat}(G:o < CS.length){v:Value}(O:isCell v=true):
  ∃h',h.store b o [v]=some h'/\Blk h' b (some g) (CS.set o v)/\Keep (· = g) h h'/\h'.next=h.next/\(Wf h->Wf h'):=by
 obtain⟨h',U,E,V,W,h5⟩:=hb.store (o:=o) (vs:=[v]) (by simp;omega) (by simp[O]);rw[GD G]at E;exact⟨h',U,E,V,W,h5⟩
theorem De{CS vs:LV}{i n:Nat}(hi:i+vs.length<=n)(E:n<=CS.length):splice (CS.take n) i vs=(splice CS i vs).take n:=by
 apply Vi;intro j;rw[fI (by rw[Uq];omega),VZ,VZ,fI (by omega)]
 split <;> split <;> first | rfl | omega | skip
def Ow(h:Hp)(w:Nat)(g:ON)(a:OA)(l c:Nat)(cs:LV):Prop :=
 (g=none/\l=0/\c=0/\cs=[]/\(a=none\/∃b o,a=some ⟨b,o,none⟩))\/
 ∃b sp g' CS,g=some g'/\a=some ⟨b,0,sp⟩/\(sp=none\/sp=some w)/\l<=c/\0 < c/\Blk h b (some g') CS/\CS.length=c * w/\cs=CS.take (l * w)
theorem Ow.nil(h:Hp)(w:Nat):Ow h w none none 0 0 []:=.inl ⟨rfl,rfl,rfl,rfl,.inl rfl⟩
section
variable {h:Hp} {w:Nat} {g:ON} {a:OA} {l c:Nat} {cs:LV}
theorem Ow.sl(s:Ow h w g a l c cs):Sl h w g a l c cs:=by
 rcases s with ⟨rfl,rfl,rfl,rfl,G⟩ | ⟨b,sp,O,CS,rfl,rfl,E,hl,U,hb,hlen,rfl⟩
 ·refine⟨Uf _,by simp,?_⟩;rcases G with rfl | ⟨b,o,rfl⟩
  ·exact⟨rfl,rfl⟩
  ·exact⟨.inl rfl,fun h0=>by omega⟩
 ·have:l * w<=c * w:=VU w hl;exact⟨hl,by rw[Uq];omega,E,fun _=>⟨CS,hb,by omega,by rw[VC]⟩⟩
theorem Ow.keep{S:NP}{h':Hp}(k:Keep S h h')(s:Ow h w g a l c cs)(O:∀x,g=some x->¬S x):Ow h' w g a l c cs:=by
 rcases s with U | ⟨b,sp,V,CS,rfl,rfl,E,hl,W,hb,hlen,rfl⟩
 ·exact .inl U
 ·exact .inr ⟨b,sp,V,CS,rfl,rfl,E,hl,W,k.blk hb fun x G=>by simp at G;subst G;exact O _ rfl,hlen,rfl⟩
theorem Ow.glt(wf:Wf h)(s:Ow h w g a l c cs):∀x,g=some x->x < h.next:=by
 rcases s with ⟨rfl,_⟩ | ⟨b,sp,O,CS,rfl,rfl,G,hl,U,hb,hlen,rfl⟩
 ·simp
 ·intro x E;simp at E;subst E;exact hb.glt wf
theorem Ow.cut(s:Ow h w g a l c cs){k:Nat}(G:k<=l):Ow h w g a k c (cs.take (k * w)):=by
 rcases s with ⟨rfl,rfl,rfl,rfl,O⟩ | ⟨b,sp,U,CS,rfl,rfl,E,hl,V,hb,hlen,rfl⟩
 ·have:k=0:=by omega
  subst this;exact .inl ⟨rfl,rfl,rfl,by simp,O⟩
 ·have:k * w<=l * w:=VU w G;exact .inr ⟨b,sp,U,CS,rfl,rfl,E,by omega,V,hb,hlen,by rw[List.take_take,Vc this]⟩
theorem Ow.store(s:Ow h w g a l c cs){i:Nat}{vs:LV}(hi:i+vs.length<=l * w)(U:0 < l)(V:vs.all isCell=true):
  a.isSome=true/\∃h',h.store (blk a) (off a+i) vs=some h'/\Ow h' w g a l c (splice cs i vs)/\Keep (fun x=>g=some x) h h'/\h'.next=h.next/\(Wf h->Wf h'):=by
 rcases s with ⟨rfl,rfl,rfl,rfl,ha⟩ | ⟨b,sp,W,CS,rfl,rfl,G,hl,hc,hb,hlen,rfl⟩
 ·omega
 ·have aa:l * w<=c * w:=VU w hl;obtain⟨h',h1,h2,E,h4,h5⟩:=hb.store (o:=i) (vs:=vs) (by omega) V;have e0:off (some ⟨b,0,sp⟩)+i=i:=by simp[off]
  refine⟨rfl,h',by rw[e0];exact h1,.inr ⟨b,sp,W,_,rfl,rfl,G,hl,hc,h2,?_,?_⟩,⟨E.next,E.ro,fun b c t g hb O=>E.rw b c t g hb fun he=>O (by rw[he]),fun b o hb hi O=>E.oth b o hb hi fun he=>O (by rw[he])⟩,h4,h5⟩
  ·rw[gC (by omega)];exact hlen
  ·exact De hi (by omega)
end
section
variable {P:Program}
theorem Ow.append{h:Hp}(wf:Wf h){t xt elem:TI}{w bytes:Nat}(ht:AppT P t xt elem w bytes){g:ON}{a:OA}{l c:Nat}{cs:LV}(s:Ow h w g a l c cs)
  {x:Value} {n:Nat} {new:LV} (hx:dC w x h=some (n,new)) (V:new.length=n * w) (hv:new.all isCell=true) (hr:roomy (l+n) bytes=true) :
  ∃a' c' g' h',aQ P t xt (.slice a l c) x h=some (.slice a' (l+n) c',h')/\Ow h' w g' a' (l+n) c' (cs++new)/\(g'=g\/∃y,g'=some y/\h.next<=y)/\Keep (fun x=>g=some x) h h'/\Wf h':=by
 obtain⟨i,z,e1,e2,e3,e4,e5⟩:=ht.info;obtain⟨u,e6,e7⟩:=ht.other;have hp:=ht.pos;have hb:=ht.bpos;have ae:l<=c:=by rcases s with ⟨_,h1,h2,_⟩ | ⟨_,_,_,_,_,_,_,h1,_⟩ <;> omega
 have main:aQ P t xt (.slice a l c) x h=if n=0 then some (.slice a l c,h) else
   (match (Value.slice a l c) with
    | .slice none 0 0=>some (.slice (some ⟨h.next,0,some w⟩) n n,h.alloc new elem)
    | .slice (some ⟨b,o,sp⟩) l c =>
     if l+n<=c then(h.store b (o+l * w) new).map fun h'=>(.slice (some ⟨b,o,sp⟩) (l+n) c,h')
     else match sp with
      | none=>if l=0 then some (.slice (some ⟨h.next,0,some w⟩) n n,h.alloc new elem) else
       (h.cellsAt b o (l * w)).map fun old=>(.slice (some ⟨h.next,0,some w⟩) (l+n) (l+n),h.alloc (old++new) elem)
      | some k=>if k=w then(h.extend b o (o+l * w) new).map fun h'=>(.slice (some ⟨h.next,0,some w⟩) (l+n) (l+n),h') else none
    | _=>none):=by
  unfold aQ;rw[ht.under]
  dsimp only
  rw[e1,e6];have af:¬(w=0):=by omega
  have ag:¬(bytes=0):=by omega
  cases u with
  | int k=>exact absurd rfl (e7 k)
  | _ =>
   dsimp only
   rw[e2,hx];by_cases O:n=0
   ·simp[O,ae]
   ·simp only[O,if_false,JZ,e3,e4,e5,Uv,decide_true,Bool.not_true,hr,Bool.false_or,Bool.or_false,af,ag,decide_false,VA]
    cases a <;> rfl
 rw[main];by_cases O:n=0
 ·subst O;have:new=[]:=by simpa using V
  subst this;simp only[if_true,Vk,VJ];exact⟨a,c,g,h,rfl,s,.inl rfl,Keep.refl _ _,wf⟩
 ·simp only[O,if_false];have fresh:∀(E:LV) (k:Nat),E.length=k * w->0 < k->Ow (h.alloc E elem) w (some h.next) (some ⟨h.next,0,some w⟩) k k E/\Keep (fun x=>g=some x) h (h.alloc E elem)/\Wf (h.alloc E elem):=by
   intro E k hk h0;exact⟨.inr ⟨h.next,some w,h.next,E,rfl,rfl,.inr rfl,Uf _,h0,lU wf E elem,hk,by rw[<-hk,Wi]⟩,(jY wf E elem).mono wf fun _ _ hf=>hf.elim,oK wf E elem⟩
  rcases s with ⟨rfl,rfl,rfl,rfl,ha⟩ | ⟨b,sp,g',CS,rfl,rfl,aa,hl,hc,U,hlen,rfl⟩
  ·obtain⟨f1,f2,f3⟩:=fresh new n V (by omega);rcases ha with rfl | ⟨b,o,rfl⟩
   ·simp only[Nat.zero_add,VH];exact⟨_,_,_,_,rfl,f1,.inr ⟨_,rfl,Uf _⟩,f2,f3⟩
   ·simp only[Nat.zero_add,VH];rw[if_neg (by omega)];simp only[if_true];exact⟨_,_,_,_,rfl,f1,.inr ⟨_,rfl,Uf _⟩,f2,f3⟩
  ·have ai:l * w<=c * w:=VU w hl;have W:(CS.take (l * w)).length=l * w:=by rw[Uq];omega
   simp only[Nat.zero_add];by_cases G:l+n<=c
   ·rw[if_pos G];have ah:(l+n) * w<=c * w:=VU w G;have ac:(l+n) * w=l * w+n * w:=Vb _ _ _;obtain⟨h',h1,h2,h3,h4,h5⟩:=U.store (o:=l * w) (vs:=new) (by omega) hv;rw[h1];refine⟨_,_,_,_,rfl,.inr ⟨b,sp,g',_,rfl,rfl,aa,G,hc,h2,by rw[gC (by omega)];exact hlen,?_⟩,.inl rfl,⟨h3.next,h3.ro,fun b c t g hb O=>h3.rw b c t g hb fun he=>O (by rw[he]),fun b o hb hi O=>h3.oth b o hb hi fun he=>O (by rw[he])⟩,h5 wf⟩;have e:(CS.take (l * w)++new).length=(l+n) * w:=by rw[Ug,W,V,ac]
    rw[<-e];exact List.take_left.symm
   ·rw[if_neg G];rcases aa with rfl | rfl
    ·simp only;by_cases ad:l=0
     ·subst ad;obtain⟨f1,f2,f3⟩:=fresh new n V (by omega);simp only[if_true,Nat.zero_add,Nat.zero_mul,Vn,VH];exact⟨_,_,_,_,rfl,f1,.inr ⟨_,rfl,Uf _⟩,f2,f3⟩
     ·rw[if_neg ad,U.cells (by omega)];obtain⟨f1,f2,f3⟩:=fresh (CS.take (l * w)++new) (l+n) (by rw[Ug,W,Vb];omega) (by omega);simp only[VC,Uv];exact⟨_,_,_,_,rfl,f1,.inr ⟨_,rfl,Uf _⟩,f2,f3⟩
    ·simp only[if_true];obtain⟨h',g1,g2,g3,g4,g5,g6⟩:=U.extend wf (o:=0) (e:=l * w) (new:=new) (by omega) (by omega) hv;rw[g1];rw[VC,Nat.sub_zero]at g2;refine⟨_,_,_,_,rfl,.inr ⟨h.next,some w,g',_,rfl,rfl,.inr rfl,Uf _,by omega,g2,by rw[Ug,W,Vb];omega,?_⟩,.inl rfl,⟨g4.next,g4.ro,fun b c t g hb O=>g4.rw b c t g hb fun he=>O (by rw[he]),fun b o hb hi O=>g4.oth b o hb hi fun he=>O (by rw[he])⟩,g6⟩;exact(Uj (by rw[Ug,W,Vb];omega)).symm
theorem Ow.append1{h O:Hp}(wf:Wf h){t xt elem e:TI}{w bytes:Nat}(W:AppT P t xt elem w bytes){g:ON}{a:OA}{l c:Nat}{cs:LV}(s:Ow h w g a l c cs)
  {new:LV} (he:O=h.alloc new e) (U:new.length=w) (hv:new.all isCell=true) (hr:roomy (l+1) bytes=true) :
  ∃a' c' E h',aQ P t xt (.slice a l c) (.slice (some ⟨h.next,0,none⟩) 1 1) O=some (.slice a' (l+1) c',h')/\Ow h' w E a' (l+1) c' (cs++new)/\(E=g\/∃y,E=some y/\h.next<=y)/\Keep (fun x=>g=some x) h h'/\Wf h':=by
 subst he;have k:=jY wf new e;have V:=oK wf new e;have hb:=lU wf new e;have hd:dC w (.slice (some ⟨h.next,0,none⟩) 1 1) (h.alloc new e)=some (1,new):=by
  simp only[dC,Nat.one_mul];rw[hb.cells (by omega)];simp[<-U]
 obtain⟨a',c',E,h',O,h2,G,h4,h5⟩:=Ow.append V W (s.keep k fF) hd (by omega) hv hr;refine⟨a',c',E,h',O,h2,?_,(k.mono wf (S':=fun x=>g=some x) fun _ _ hf=>hf.elim).trans wf h4 (fun _ _ hg=>hg),h5⟩;rcases G with G | ⟨y,G,h6⟩
 ·exact .inl G
 ·exact .inr ⟨y,G,by rw[AA]at h6;omega⟩
end
theorem aC{a b:Int}:bO a b=true↔a < b:=by simp only[bO,decide_eq_true_eq]
theorem eV{a b:Int}:qA a b=true↔a<=b:=by simp only[qA,decide_eq_true_eq]
theorem aS{a b:Int}:dB a b=true↔a > b:=by simp only[dB,decide_eq_true_eq]
theorem cK{a b:Int}:iE a b=true↔a>=b:=by simp only[iE,decide_eq_true_eq]
theorem aV{a b:Int}:bX a b=true↔a=b:=by simp only[bX,beq_iff_eq]
theorem bA{a b:Int}:cP a b=true↔a≠b:=by simp only[cP,bne_iff_ne]
theorem gR{b:Bool}:aD b=true↔b=false:=by cases b <;> simp[aD]
theorem zZ{a b:Bool}:dJ a b=true↔a=true/\b=true:=by cases a <;> cases b <;> simp[dJ]
theorem cG{a b:Bool}:aR a true b=true↔a=true\/b=true:=by cases a <;> cases b <;> simp[aR]
theorem bN{a b:Bool}:aR a b false=true↔a=true/\b=true:=by cases a <;> cases b <;> simp[aR]
theorem aF(n:Nat):aE n=(n:Int):=rfl
section
variable {P:Program}
end
section
variable {P:Program}
theorem HH{h:Hp}{t xt elem:TI}{w bytes:Nat}(E:AppT P t xt elem w bytes){a:OA}{l c:Nat}{x:Value}{n:Nat}{new:LV}(G:l<=c)(W:dC w x h=some (n,new))(aa:new.length=n * w)(hr:roomy (l+n) bytes=true):
  aQ P t xt (.slice a l c) x h=if n=0 then some (.slice a l c,h) else
   (match (Value.slice a l c) with
    | .slice none 0 0=>some (.slice (some ⟨h.next,0,some w⟩) n n,h.alloc new elem)
    | .slice (some ⟨b,o,sp⟩) l c =>
     if l+n<=c then(h.store b (o+l * w) new).map fun h'=>(.slice (some ⟨b,o,sp⟩) (l+n) c,h')
     else match sp with
      | none=>if l=0 then some (.slice (some ⟨h.next,0,some w⟩) n n,h.alloc new elem) else
       (h.cellsAt b o (l * w)).map fun old=>(.slice (some ⟨h.next,0,some w⟩) (l+n) (l+n),h.alloc (old++new) elem)
      | some k=>if k=w then(h.extend b o (o+l * w) new).map fun h'=>(.slice (some ⟨h.next,0,some w⟩) (l+n) (l+n),h') else none
    | _=>none):=by
 obtain⟨i,z,e1,e2,e3,e4,e5⟩:=E.info;obtain⟨u,e6,e7⟩:=E.other;have hp:=E.pos;have hb:=E.bpos;unfold aQ;rw[E.under]
 dsimp only
 rw[e1,e6];have O:¬(w=0):=by omega
 have U:¬(bytes=0):=by omega
 cases u with
 | int k=>exact absurd rfl (e7 k)
 | _ =>
  dsimp only
  rw[e2,W];by_cases V:n=0
  ·simp[V,G]
  ·simp only[V,if_false,JZ,e3,e4,e5,Uv,decide_true,Bool.not_true,hr,Bool.false_or,Bool.or_false,O,U,decide_false,VA]
   cases a <;> rfl
theorem MR{h:Hp}(wf:Wf h){new:LV}{w:Nat}(E:new.length=w)(e:TI):dC w (.slice (some ⟨h.next,0,none⟩) 1 1) (h.alloc new e)=some (1,new):=by
 have hb:=lU wf new e;simp only[dC,Nat.one_mul];rw[hb.cells (by omega)];simp[<-E]
section
variable {h:Hp} {w:Nat} {g:ON} {a:OA} {l:Nat} {cs:LV}
end
end
section
variable {P:Program}
end
section
variable {P:Program}
end
end Go.Cn
namespace Go.Cn.Pk
def UR(b:UInt8):LV:=[.int .u8 (b.toNat:Int)]
def bc(L:LU):LV:=L.flatMap UR
def str(L:LU):BA:=⟨L.toArray⟩
def be:Nat->Nat->LU
 | 0,_=>[]
 | n+1,x=>UInt8.ofNat (x >>> (8 * n))::be n x
def num(L:LU):Nat:=L.foldl (fun n b=>n * 256+b.toNat) 0
theorem Oa(b:UInt8):(UR b).length=1:=rfl
theorem aJ(L:LU):(bc L).length=L.length:=by
 unfold bc;rw[Ea Oa,Ve]
theorem fM(L M:LU):bc (L++M)=bc L++bc M:=by unfold bc;rw[VX]
theorem aZ(L:LU):(bc L).all isCell=true:=by
 induction L with
 | nil=>rfl
 | cons b L E=>show(bc ([b]++L)).all isCell=true;rw[fM,Vt,E];rfl
theorem eU(L:LU):bc L=L.map fun b=>.int .u8 (b.toNat:Int):=by
 induction L with
 | nil=>rfl
 | cons b L E=>show _::bc L=_;rw[E];rfl
theorem pF(L:LU):bytesOf (bc L)=some L:=by
 induction L with
 | nil=>rfl
 | cons b L E =>
  show(bytesOf (bc L)).map (UInt8.ofNat ((b.toNat:Int)).toNat :: ·)=_;rw[E];simp
theorem jC(L:LU):(str L).data.toList=L:=rfl
theorem eQ(L:LU):(str L).size=L.length:=rfl
theorem Bt(s:BA):str s.data.toList=s:=rfl
theorem gJ(L M:LU):dH (str L) (str M)=str (L++M):=by
 unfold dH str;show ByteArray.append _ _=_;rw[ByteArray.append_eq];apply ByteArray.ext;rw[ByteArray.data_append];simp
theorem lS(s:BA):s.data.toList.map (fun b=>Value.int .u8 (b.toNat:Int))=bc s.data.toList:=(eU _).symm
theorem cO:∀n x,(be n x).length=n
 | 0,_=>rfl
 | n+1,x=>by unfold be;rw[Ux,cO n]
structure WAt(n0:Nat)(h:Hp)(b:Nat)(L:LU):Prop where
 le:n0<=b
 mem:∃a,Blk h b (some b) [.bool true,.slice a L.length L.length]/\Bd h 1 (fun g=>n0<=g/\g≠b) a L.length L.length (bc L)
theorem WAt.keep{n0 n1:Nat}{h h':Hp}{b:Nat}{L:LU}(w:WAt n0 h b L)(wf:Wf h)(k:Keep (n1<=·) h h')(V:h.next<=n1):WAt n0 h' b L:=by
 obtain⟨hle,a,G,O⟩:=w;have hb:=G.glt wf;refine⟨hle,a,k.blk G fun x E=>by simp at E;omega,?_⟩;exact((O.bound wf).keep k fun x E=>by have:=E.2;omega).mono fun g U=>U.1
theorem WAt.lt{n0:Nat}{h:Hp}(wf:Wf h){b:Nat}{L:LU}(w:WAt n0 h b L):b < h.next:=by
 obtain⟨hle,a,E,G⟩:=w;exact E.glt wf
theorem WAt.new{h E:Hp}(wf:Wf h){e:TI}(he:E=h.alloc [.bool true,.slice none 0 0] e):WAt h.next E h.next []/\Kept h E/\Wf E:=by
 obtain⟨b1,O,n1,G⟩:=aB wf he;exact⟨⟨Uf _,none,b1,Bd.nil _ _ _⟩,O,G⟩
section
variable {P:Program}
theorem WAt.app{n0:Nat}{h h1:Hp}(wf:Wf h){t xt elem:TI}(ht:AppT P t xt elem 1 1){b:Nat}{L:LU}{a:OA}(V:Wf h1)(kk:Kept h h1)(W:n0<=b)
  (hb:Blk h b (some b) [.bool true,.slice a L.length L.length]) (bd:Bd h 1 (fun g=>n0<=g/\g≠b) a L.length L.length (bc L))
  {x:Value} {M:LU} (G:dC 1 x h1=some (M.length,bc M)) (hr:L.length+M.length<=1099511627776) :
  ∃a' O,aQ P t xt (.slice a L.length L.length) x h1=some (.slice a' (L++M).length (L++M).length,O)/\
   ∃U,O.store b 1 [.slice a' (L++M).length (L++M).length]=some U/\WAt n0 U b (L++M)/\Keep (n0<=·) h U/\Wf U:=by
 have ae:=hb.glt wf;have af:=kk.next;obtain⟨a',O,e1,b1,k1,aa⟩:=Bd.append V ht (S:=fun g=>n0<=g/\g≠b) (fun g E=>by constructor <;> omega) (bd.keep kk fF) G (by rw[aJ,Ve]) (aZ M) (bM (by omega));have ac:Blk O b (some b) [.bool true,.slice a L.length L.length]:=k1.blk (Kept.blk kk hb) fun x G=>by simp at G;subst G;exact fun hc=>hc.2 rfl
 obtain⟨U,e3,b3,k3,n3,w3⟩:=ac.set (o:=1) (v:=.slice a' (L.length+M.length) (L.length+M.length)) (by simp) rfl;rw[Ug];refine⟨a',O,e1,U,e3,⟨W,a',?_,?_⟩,?_,w3 aa⟩
 ·rw[Ug];exact b3
 ·rw[Ug,fM];exact b1.keep k3 fun x G hc=>G.2 hc
 ·have ad:Keep (n0<=·) h O:=(kk.mono wf (S':=(n0<=·)) fun _ _ hf=>hf.elim).trans wf (k1.mono V (S':=(n0<=·)) fun _ _ E=>E.1) fun _ _ E=>E;exact ad.trans wf (k3.mono aa (S':=(n0<=·)) fun _ _ E=>by subst E;exact W) fun _ _ E=>E
theorem WAt.app1{n0:Nat}{h U:Hp}(wf:Wf h){t xt elem e:TI}(W:AppT P t xt elem 1 1){b:Nat}{L:LU}{a:OA}(G:n0<=b)
  (hb:Blk h b (some b) [.bool true,.slice a L.length L.length]) (bd:Bd h 1 (fun g=>n0<=g/\g≠b) a L.length L.length (bc L))
  {v:Int} {u:UInt8} (hv:v=u.toNat) (he:U=h.alloc [.int .u8 v] e) (hr:L.length+1<=1099511627776) :
  ∃a' V,aQ P t xt (.slice a L.length L.length) (.slice (some ⟨h.next,0,none⟩) 1 1) U=some (.slice a' (L++[u]).length (L++[u]).length,V)/\
   ∃E,V.store b 1 [.slice a' (L++[u]).length (L++[u]).length]=some E/\WAt n0 E b (L++[u])/\Keep (n0<=·) h E/\Wf E:=by
 obtain⟨b1,k1,n1,O⟩:=aB wf he;refine WAt.app wf W O k1 G hb bd (M:=[u]) ?_ hr;simp only[dC,Nat.one_mul];rw[b1.cells (by simp)];subst hv
 rfl
theorem WAt.read{n0:Nat}{h:Hp}{b:Nat}{L:LU}{a:OA}(bd:Bd h 1 (fun g=>n0<=g/\g≠b) a L.length L.length (bc L)):fU a L.length h (str L):=by
 rcases bd with ⟨E,G,_,O⟩ | ⟨b',g,E,_,_,G,O,U⟩
 ·left
  refine⟨E,?_⟩;have:L=[]:=VS G;subst this
  rfl
 ·right
  subst E;refine⟨rfl,bc L,?_,pF L⟩;show h.cellsAt b' 0 L.length=_;rw[U.cells (by rw[aJ];omega),VC,Uj (by rw[aJ];omega)]
end
def FM(h:Hp)(b:Nat)(s:BA)(at':Nat)(fault:Int):Prop:=Blk h b (some b) [.bool true,.string s,.int .i64 (at':Int),.int .i64 fault]
theorem sK(L:LU)(b:UInt8):num (L++[b])=num L * 256+b.toNat:=by unfold num;rw[List.foldl_append];rfl
theorem sJ(L:LU):num L < 256 ^ L.length:=by
 have:∀(L:LU) (n m:Nat),n < m->L.foldl (fun n b=>n * 256+b.toNat) n < m * 256 ^ L.length:=by
  intro L
  induction L with
  | nil=>intro n m h;simpa using h
  | cons b L E =>
   intro n m h;have hb:=b.toNat_lt;have:=E (n * 256+b.toNat) (m * 256) (by omega);simp only[Vx,Ux,Nat.pow_succ];rw[show m * (256 ^ L.length * 256)=m * 256 * 256 ^ L.length by rw[WN (256 ^ L.length),WY]];exact this
 have:=this L 0 1 (by omega);simpa[num]using this
end Go.Cn.Pk
namespace Go.Cn.Sha
open Go Go.Cn
def rot(n x:Nat):Nat:=(x >>> n) ||| ((x <<< (32 - n)) % 4294967296)
def add(a b:Nat):Nat:=(a+b) % 4294967296
def s0(x:Nat):Nat:=(rot 7 x ^^^ rot 18 x) ^^^ (x >>> 3)
def s1(x:Nat):Nat:=(rot 17 x ^^^ rot 19 x) ^^^ (x >>> 10)
def S0(x:Nat):Nat:=(rot 2 x ^^^ rot 13 x) ^^^ rot 22 x
def S1(x:Nat):Nat:=(rot 6 x ^^^ rot 11 x) ^^^ rot 25 x
def ch(e f g:Nat):Nat:=(e &&& f) ^^^ ((4294967295 ^^^ e) &&& g)
def Ts(a b c:Nat):Nat:=((a &&& b) ^^^ (a &&& c)) ^^^ (b &&& c)
def Ae(r:LN):Nat:=add (add (add (r.getD 15 0) (s0 (r.getD 14 0))) (r.getD 6 0)) (s1 (r.getD 1 0))
def Ga:Nat->LN->LN
 | 0,r=>r
 | n+1,r=>Ga n (Ae r::r)
structure St where
 a:Nat
 b:Nat
 c:Nat
 d:Nat
 e:Nat
 f:Nat
 g:Nat
 h:Nat
def t1(s:St)(k w:Nat):Nat:=add (add (add (add s.h (S1 s.e)) (ch s.e s.f s.g)) k) w
def round(s:St)(k w:Nat):St:=⟨add (add (t1 s k w) (S0 s.a)) (Ts s.a s.b s.c),s.a,s.b,s.c,add s.d (t1 s k w),s.e,s.f,s.g⟩
def rounds:LN->LN->St->St
 | k::ks,w::ws,s=>rounds ks ws (round s k w)
 | _,_,s=>s
def K:LN:=[1116352408,1899447441,3049323471,3921009573,961987163,1508970993,2453635748,2870763221,3624381080,310598401,607225278,1426881987,1925078388,2162078206,2614888103,3248222580,3835390401,4022224774,264347078,604807628,770255983,1249150122,1555081692,1996064986,2554220882,2821834349,2952996808,3210313671,3336571891,3584528711,113926993,338241895,666307205,773529912,1294757372,1396182291,1695183700,1986661051,2177026350,2456956037,2730485921,2820302411,3259730800,3345764771,3516065817,3600352804,4094571909,275423344,430227734,506948616,659060556,883997877,958139571,1322822218,1537002063,1747873779,1955562222,2024104815,2227730452,2361852424,2428436474,2756734187,3204031479,3329325298]
def H0:LN:=[1779033703,3144134277,1013904242,2773480762,1359893119,2600822924,528734635,1541459225]
def word(a b c d:Nat):Nat:=(((a <<< 24) % 4294967296 ||| (b <<< 16) % 4294967296) ||| (c <<< 8) % 4294967296) ||| d
def words:LN->LN
 | a::b::c::d::r=>word a b c d::words r
 | _=>[]
def nW(s:St):LN:=[s.a,s.b,s.c,s.d,s.e,s.f,s.g,s.h]
def wP:LN->St
 | [a,b,c,d,e,f,g,h]=>⟨a,b,c,d,e,f,g,h⟩
 | _=>⟨0,0,0,0,0,0,0,0⟩
def block(hs:LN)(bs:LN):LN:=List.zipWith add hs (nW (rounds K (Ga 48 (words bs).reverse).reverse (wP hs)))
def blocks:(n:Nat)->LN->LN->LN
 | 0,hs,_=>hs
 | n+1,hs,bs=>blocks n (block hs (bs.take 64)) (bs.drop 64)
def dD(n:Nat):Nat:=(119 - n % 64) % 64
def fE(n:Nat):LN:=[56,48,40,32,24,16,8,0].map fun s=>((n * 8) % 18446744073709551616) >>> s % 256
def pad(bs:LN):LN:=bs++128::(List.replicate (dD bs.length) 0++fE bs.length)
def outBytes(w:Nat):LN:=[(w >>> 24) % 256,(w >>> 16) % 256,(w >>> 8) % 256,w % 256]
def sum(bs:LN):LN:=((blocks ((pad bs).length / 64) H0 (pad bs)).map outBytes).flatten
def gF(n:Nat):Prop:=n < 4294967296
theorem wrap_u32(n:Nat):IntKind.u32.wrap (n:Int)=((n % 4294967296:Nat):Int):=by
 unfold IntKind.wrap;simp[IntKind.bits,IntKind.signed]
theorem wrap_u64(n:Nat):IntKind.u64.wrap (n:Int)=((n % 18446744073709551616:Nat):Int):=by
 unfold IntKind.wrap;simp[IntKind.bits,IntKind.signed]
theorem wrap_u8(n:Nat):IntKind.u8.wrap (n:Int)=((n % 256:Nat):Int):=by
 unfold IntKind.wrap;simp[IntKind.bits,IntKind.signed]
theorem iL(a b:Nat):aG .u32 a b=((add a b:Nat):Int):=by
 unfold aG add;rw[<-Int.natCast_add,wrap_u32]
theorem HW{a:Nat}(E:gF a):(BitVec.ofInt IntKind.u32.bits (a:Int)).toNat=a:=by
 unfold gF at E;simp[IntKind.bits]
 omega
theorem iZ{a b:Nat}(E:gF a)(hb:gF b):fO .u32 a b=((a ^^^ b:Nat):Int):=by
 unfold fO;rw[BitVec.toNat_xor,HW E,HW hb,wrap_u32,Up];exact Nat.xor_lt_two_pow (n:=32) E hb
theorem qP{a b:Nat}(E:gF a)(hb:gF b):iD .u32 a b=((a &&& b:Nat):Int):=by
 unfold iD;rw[BitVec.toNat_and,HW E,HW hb,wrap_u32,Up];exact Nat.and_lt_two_pow (n:=32) _ hb
theorem tK{a b:Nat}(E:gF a)(hb:gF b):tL .u32 a b=((a ||| b:Nat):Int):=by
 unfold tL;rw[BitVec.toNat_or,HW E,HW hb,wrap_u32,Up];exact Nat.or_lt_two_pow (n:=32) E hb
theorem shrW_nat(k:IntKind)(a n:Nat)(h:n<=k.bits):gL k a n=((a >>> n:Nat):Int):=by
 unfold gL;rw[Uo,Vc h,WK];rw[Int.fdiv_eq_ediv_of_nonneg _ (by exact_mod_cast Uk _)]
 push_cast
 rfl
theorem pT(a n:Nat)(h:n<=32):jM .u32 a n=(((a <<< n) % 4294967296:Nat):Int):=by
 unfold jM;rw[Uo,Vc (show n<=IntKind.u32.bits from h),Nat.shiftLeft_eq];rw[show((a:Int) * 2 ^ n)=((a * 2 ^ n:Nat):Int) by push_cast;rfl,wrap_u32]
theorem NM{a:Nat}(E:gF a):Em .u32 a=((4294967295 ^^^ a:Nat):Int):=by
 unfold Em;rw[BitVec.toNat_xor,HW E,wrap_u32,Up]
 ·rfl
 ·exact Nat.xor_lt_two_pow (n:=32) (by simp[IntKind.signed,IntKind.max,IntKind.bits]) E
theorem gF.add(a b:Nat):gF (add a b):=Nat.mod_lt _ (by omega)
theorem gF.xor{a b:Nat}(E:gF a)(hb:gF b):gF (a ^^^ b):=Nat.xor_lt_two_pow (n:=32) E hb
theorem gF.and{a b:Nat}(hb:gF b):gF (a &&& b):=Nat.and_lt_two_pow (n:=32) _ hb
theorem gF.or{a b:Nat}(E:gF a)(hb:gF b):gF (a ||| b):=Nat.or_lt_two_pow (n:=32) E hb
theorem gF.shr{a:Nat}(n:Nat)(E:gF a):gF (a >>> n):=WO (by rw[WK];exact Nat.div_le_self _ _) E
theorem gF.mod(a:Nat):gF (a % 4294967296):=Nat.mod_lt _ (by omega)
theorem gF.rot{a:Nat}(n:Nat)(E:gF a):gF (rot n a):=(E.shr n).or (.mod _)
theorem gF.com{a:Nat}(E:gF a):gF (4294967295 ^^^ a):=Nat.xor_lt_two_pow (n:=32) (by decide) E
end Go.Cn.Sha
namespace Go.Cn.Pk
open Go.Cn.Sha (wrap_u8 wrap_u32 wrap_u64 shrW_nat)
theorem eF(n:Nat):cC .u8 (n:Int)=((n % 256:Nat):Int):=wrap_u8 n
theorem nP(n:Nat):cC .u32 (n:Int)=((n % 4294967296:Nat):Int):=wrap_u32 n
theorem cQ(n:Nat):cC .u64 (n:Int)=((n % 18446744073709551616:Nat):Int):=wrap_u64 n
theorem sY{n:Int}(h0 : -9223372036854775808<=n)(E:n < 9223372036854775808):cC .i64 n=n:=by
 unfold cC IntKind.wrap;simp[IntKind.bits,IntKind.signed]
 omega
theorem KB{a b:Nat}(h:a * b < 18446744073709551616):cY .u64 (a:Int) (b:Int)=((a * b:Nat):Int):=by
 unfold cY;rw[<-Int.natCast_mul,wrap_u64,Up h]
theorem SQ{j:Nat}(h:j < 8):cY .u64 8 (cC .u64 (j:Int))=((8 * j:Nat):Int):=by
 rw[cQ,Up (by omega)];exact KB (a:=8) (by omega)
theorem EC(j:Nat)(h:j < 8):bR (cY .u64 8 (cC .u64 (j:Int))):=by
 rw[SQ h];exact Ui _
theorem byteOf(n:Nat):((n % 256:Nat):Int)=(UInt8.ofNat n).toNat:=by simp[UInt8.toNat_ofNat]
theorem Pu(x j:Nat)(E:j < 1)(G:x<=255):gL .u8 (x:Int) (cY .u64 8 (cC .u64 (j:Int)))=((UInt8.ofNat (x >>> (8 * j))).toNat:Int):=by
 rw[SQ (by omega),shrW_nat .u8 x (8 * j) (by simp[IntKind.bits];omega),<-byteOf];have:x >>> (8 * j)=x:=by rw[show j=0 by omega];rfl
 rw[this,Up (by omega)]
theorem Nr(x j:Nat)(E:j < 4)(G:x<=4294967295):cC .u8 (gL .u32 (x:Int) (cY .u64 8 (cC .u64 (j:Int))))=((UInt8.ofNat (x >>> (8 * j))).toNat:Int):=by
 rw[SQ (by omega),shrW_nat .u32 x (8 * j) (by simp[IntKind.bits];omega),<-byteOf,eF]
theorem Nu:∀(n x i:Nat),i < n->(be n x)[i]? = some (UInt8.ofNat (x >>> (8 * (n - 1 - i))))
 | 0,x,i,h=>by omega
 | n+1,x,0,h=>by simp[be]
 | n+1,x,i+1,h=>by
  unfold be;rw[Vd,Nu n x i (by omega)];congr 4
  omega
theorem IZ(n x j:Nat)(h:j < n):(be n x).take (n - (j+1))++[UInt8.ofNat (x >>> (8 * j))]=(be n x).take (n - j):=by
 rw[show n - j=(n - (j+1))+1 by omega,VG,Nu n x _ (by omega)];rw[show n - 1 - (n - (j+1))=j by omega]
 rfl
theorem jW{s:BA}{i:Nat}(h:i < s.size):∃u:UInt8,s.data.toList[i]? = some u/\fK s (i:Int)=(u.toNat:Int):=by
 have hl:i < s.data.toList.length:=by rw[VE];exact h
 refine⟨s.data.toList[i],Uh hl,?_⟩;unfold fK;rw[Uo,getElem?_pos s i h]
 rfl
theorem GX{n:Nat}(h:n < 72057594037927936):jM .u64 (n:Int) 8=((n * 256:Nat):Int):=by
 have:jM .u64 (n:Int) 8=IntKind.u64.wrap ((n * 256:Nat):Int):=by
  unfold jM;simp[IntKind.bits]
 rw[this,wrap_u64,Up (by omega)]
theorem Pv{a:Nat}(E:a < 18446744073709551616):(BitVec.ofInt IntKind.u64.bits (a:Int)).toNat=a:=by
 simp[IntKind.bits]
 omega
theorem PD{n b:Nat}(h:n < 72057594037927936)(hb:b < 256):tL .u64 ((n * 256:Nat):Int) (b:Int)=((n * 256+b:Nat):Int):=by
 unfold tL;rw[BitVec.toNat_or,Pv (by omega),Pv (by omega),wrap_u64];have E:n * 256 ||| b=n * 256+b:=by
  have:=Nat.shiftLeft_add_eq_or_of_lt (a:=n) (b:=b) (i:=8) (by omega);rw[Nat.shiftLeft_eq]at this;exact this.symm
 rw[E,Up (by omega)]
theorem Lx{n:Nat}{u:UInt8}(h:n < 72057594037927936):tL .u64 (jM .u64 (n:Int) 8) (cC .u64 (u.toNat:Int))=((n * 256+u.toNat:Nat):Int):=by
 have hu:=u.toNat_lt;rw[GX h,cQ,Up (by omega),PD h (by omega)]
def kN(n:Nat)(s:BA)(at':Nat)(f:Int):Nat×Nat×Int :=
 if f≠0 then(0,at',f) else if s.size < at'+n then(0,at',10) else(num ((s.data.toList.drop at').take n),at'+n,0)
def wQ(n:Int)(s:BA)(at':Nat)(f:Int):BA×Nat×Int :=
 if f≠0\/n<=0 then(.empty,at',f) else if(s.size:Int) < at'+n then(.empty,at',10) else(str ((s.data.toList.drop at').take n.toNat),at'+n.toNat,0)
theorem yB{s:BA}{l h:Nat}:dQ s (l:Int) (h:Int)=str ((s.data.toList.drop l).take (h - l)):=by
 unfold dQ str;rw[Uo,Uo];apply ByteArray.ext;rw[ByteArray.data_extract];apply Array.toList_inj.1;rw[Array.toList_extract]
end Go.Cn.Pk
namespace Go.Cn
section
variable {P:Program}
theorem zP(hm:P.follows .mixedOrders=true){m n:Nat}{gX:FuncId->Nat->List Tmp}{f:FuncId}{k:IntKind}{i:Int}(U:f < P.funcs.size)
  (hx:xF P (iY m) gX n f [] Hp.empty (fun v _=>match v with | .int k' i'=>k'==k&&i'==i | _=>false)=true) (h:Hp):SCalls P f [] h fun v h'=>v = .int k i/\h'=h:=by
 have G:SCalls P f [] Hp.empty fun v _=>v = .int k i:=(Hd hm n f [] Hp.empty _ hx).mono fun v _ O=>by
  cases v with
  | int k' i'=>simp at O;rw[O.1,O.2]
  | _=>simp at O
 have G:=G.func U;refine .inl ⟨G.1,fun base σ w E hr hl=>?_⟩;have V:bK (fun _=>none) [] E.toList:=⟨hl.1,by simp⟩;refine(G.2 w.heap.size (fun _=>none) w E (AH _ w (Uf _)) V).mono ?_;rintro e w' ⟨v,v',h',cE,rfl,rfl,W,_,he⟩;have:v' = .int k i:=W.int_inv;subst this;refine⟨_,_,h,σ,rfl,⟨rfl,rfl⟩,.int k i,hr.grown he.size he.below,?_⟩;exact⟨Sg.le_refl σ,he.os,he.tape,he.output,he.size,fun k hk=>he.below k (Vj hk hr.base_le),fun k hk _=>he.below k hk,
  fun b e h1 h2=>by rw[h1]at h2;simp at h2,Uf _,fun b _ hb=>⟨rfl,rfl,hb⟩⟩
end
end Go.Cn
namespace Go.Proofs.YtmapagggnigfpaaGreat.pk
open Cn Cn.Pk vc
abbrev C:=SCalls Tryz.prog
theorem Sf:Tryz.prog.follows .mixedOrders=true:=by kernel_rfl
theorem sv{pf:FuncId->Bool}{E:Nat->List (Tmp×TI)}{f:FuncId}{fn:Func}{args:LV}{h:Hp}{K:KT}{X:Prop}(e:vX (SCalls Tryz.prog) Tryz.prog pf E fn args h K=X)(G:Wf h->X)(O:Tryz.prog.funcs[f]? = some fn:=by kernel_rfl)(hb:fn.body=some (fn.body.getD .skip):=by kernel_rfl)(U:jG fn=true:=by kernel_rfl):SCalls Tryz.prog f args h K :=
 Cw Sf O hb U fun wf=>by
 have:=G wf;rw[<-e]at this;exact this
def SW:FuncId->LV->Hp->Option OV:=fun _ _ _=>none
theorem Ti:TZ Tryz.prog SW:=by intro f args h v E;simp[SW]at E
abbrev pt(b:Nat):Value:=.pointer (some ⟨b,0,none⟩)
theorem Cu:AppT Tryz.prog 144 144 5 1 1:=AppT.of _ (by kernel_rfl)
theorem UB(h:Hp):C 130 [] h fun v h'=>v=pt h.next/\WAt h.next h' h.next []/\Kept h h':=by
 refine sv RC fun wf=>?_;intro E e1;obtain⟨w,k,_⟩:=WAt.new wf e1;exact⟨rfl,w,k⟩
theorem IQ{n0 b:Nat}{L:LU}{h:Hp}(w:WAt n0 h b L):C 135 [pt b] h fun v h'=>v = .string (str L)/\h'=h:=by
 refine sv Fs fun wf=>?_;obtain⟨E,a,hb,bd⟩:=w;rw[if_neg (by simp[isN])];exact⟨rfl,rfl,a,_,_,⟨rfl,hb.one rfl⟩,str L,WAt.read bd,rfl,rfl⟩
theorem Ex(h:Hp):C 160 [] h fun v h'=>v = .int .i64 1/\h'=h :=
 zP (m:=1000) (n:=10) (gX:=fun _ r=>if r < 1000000 then List.range 30 else []) Sf (of_decide_eq_true (by kernel_rfl)) (by kernel_rfl) h
theorem Nj{n0 b:Nat}{L:LU}{h:Hp}(w:WAt n0 h b L)(x:Nat)(hx:x<=255)(hl:L.length<=1099511620000):
  C 131 [pt b,.int .u8 (x:Int)] h fun v h'=>v = .tuple #[]/\WAt n0 h' b (L++be 1 x)/\Keep (n0<=·) h h':=by
 refine sv Le fun wf=>?_;have w0:=w;obtain⟨O,a,hb,bd⟩:=w;refine⟨fun _=>rfl,fun _=>rfl,true,fun _=>⟨rfl,hb.one rfl⟩,?_⟩;rw[if_neg (by simp[aR,isN,aD])];refine(Ex h).mono fun v h' ⟨e,eh⟩=>?_;subst eh;refine⟨1,e,fun vals m E=>∃i:Nat,[.int .i64 ((i:Int) - 1)]=vals/\m=i/\i<=1/\WAt n0 E b (L++(be 1 x).take (1 - i))/\Keep (n0<=·) h' E/\Wf E,⟨1,1,rfl,rfl,Uf _,by simpa using w0,Keep.refl _ _,wf⟩,?_⟩;rintro n i E ⟨_,e,rfl,hi,w,k,U⟩;simp at e;subst e;by_cases G:iE ((i:Int) - 1) 0=true
 ·rw[if_pos G];have aa:1<=i:=by rw[cK]at G;omega
  obtain⟨j,rfl⟩:∃j:Nat,i=j+1:=⟨i - 1,by omega⟩;obtain⟨_,a,hb,bd⟩:=w;have ej:(((j+1:Nat):Int) - 1)=(j:Int):=by omega
  rw[ej];refine⟨rfl,rfl,a,_,_,⟨rfl,hb.one rfl⟩,EC j (by omega),?_⟩;intro h1 e1;have hlen:((be 1 x).take (1 - (j+1))).length=1 - (j+1):=by rw[Uq,cO];omega
  obtain⟨a',h2,e2,h3,e3,w3,k3,V⟩:=WAt.app1 U Cu O hb bd (u:=UInt8.ofNat (x >>> (8 * j))) (Pu x j (by omega) (by omega)) e1 (by rw[Ug,hlen];omega);refine⟨a',_,_,h2,e2,rfl,rfl,rfl,h3,e3,j,by simp only[aI];omega,j,?_,rfl,by omega,?_,k.trans wf k3 fun _ _ hg=>hg,V⟩
  ·rw[bY (by omega) (by omega)]
  ·rw[Ut,IZ 1 x j (by omega)]at w3;exact w3
 ·rw[if_neg G];have W:i=0:=by
   by_cases hq:i=0
   ·exact hq
   ·exact absurd (cK.2 (by omega)) G
  subst W;refine⟨rfl,?_,k⟩;rw[Uj (by rw[cO];omega)]at w;exact w
theorem BY(h:Hp):C 163 [] h fun v h'=>v = .int .i64 4/\h'=h :=
 zP (m:=1000) (n:=10) (gX:=fun _ r=>if r < 1000000 then List.range 30 else []) Sf (of_decide_eq_true (by kernel_rfl)) (by kernel_rfl) h
theorem TK(s:BA)(h:Hp):C 214 [.string s] h fun v h'=>v=pt h.next/\FM h' h.next s 0 0/\Kept h h':=by
 refine sv LZ fun wf=>?_;intro O e1;obtain⟨b1,E,n1,G⟩:=aB wf e1;exact⟨rfl,b1,E⟩
theorem FB{b:Nat}{s:BA}{E:Nat}{f:Int}{h:Hp}(r:FM h b s E f):C 224 [pt b] h fun v h'=>v = .bool (decide (f≠0))/\h'=h:=by
 refine sv Ld fun wf=>?_;refine⟨fun _=>rfl,fun _=>rfl,true,fun _=>⟨rfl,Blk.one r rfl⟩,fun _=>rfl,fun _=>rfl,f,fun _=>⟨rfl,Blk.one r rfl⟩,?_,rfl⟩;rw[show cP f 0=decide (f≠0) by unfold cP;by_cases G:f=0 <;> simp[G]]
 rfl
theorem IV{b:Nat}{s:BA}{E:Nat}{f:Int}{h:Hp}(r:FM h b s E f)(G:E<=s.size)(hs:s.size<=1099511627776):C 225 [pt b] h fun v h'=>v = .int .i64 ((s.size:Int) - E)/\h'=h:=by
 refine sv La fun wf=>?_;rw[if_neg (by simp[isN])];refine⟨rfl,rfl,s,⟨rfl,Blk.one r rfl⟩,rfl,rfl,E,⟨rfl,Blk.one r rfl⟩,?_,rfl⟩;rw[aF,bY (by unfold aU;omega) (by unfold aU;omega)]
 rfl
theorem IW{b:Nat}{s:BA}{G:Nat}{f:Int}{h:Hp}(r:FM h b s G f)(code:Int)(E:Nat):C 226 [pt b,.int .i64 code,.int .i64 (E:Int)] h fun v h'=>v = .tuple #[]/\FM h' b s E code/\Keep (· = b) h h':=by
 refine sv Lc fun wf=>?_;obtain⟨O,e1,b1,U,_,w1⟩:=Blk.set r (o:=3) (v:=.int .i64 code) (by simp) rfl;obtain⟨V,e2,b2,W,_,w2⟩:=Blk.set b1 (o:=2) (v:=.int .i64 (E:Int)) (by simp) rfl;exact⟨rfl,rfl,rfl,O,e1,rfl,rfl,rfl,V,e2,rfl,b2,U.trans wf W fun _ _ hg=>hg⟩
theorem TG{b:Nat}{s:BA}{E:Nat}{f:Int}{h:Hp}(r:FM h b s E f)(ha:E<=s.size)(hs:s.size<=1099511627776)(n:Int)(hn:n<=1099511627776):
  C 228 [pt b,.int .i64 n] h fun v h'=>v = .string (wQ n s E f).1/\FM h' b s (wQ n s E f).2.1 (wQ n s E f).2.2/\Keep (· = b) h h':=by
 refine sv OU fun wf=>?_;refine(FB r).mono fun v h' ⟨e,U⟩=>?_;subst U;refine⟨_,e,?_⟩;unfold wQ;by_cases G:f≠0\/n<=0
 ·rw[if_pos G,if_pos (cG.2 (by rw[eV,decide_eq_true_eq];exact G))];exact⟨rfl,r,Keep.refl _ _⟩
 ·rw[if_neg G,if_neg (fun O=>G (by rw[cG,eV,decide_eq_true_eq]at O;exact O))];have aa:0 < n:=by omega
  obtain rfl:f=0:=by
   by_cases hq:f=0
   ·exact hq
   ·exact absurd (.inl hq) G
  obtain⟨N,rfl⟩:∃N:Nat,n=(N:Int):=⟨n.toNat,by omega⟩;refine(IV r ha hs).mono fun v h' ⟨e,U⟩=>?_;subst U;refine⟨_,e,?_⟩;by_cases V:(s.size:Int) < E+(N:Int)
  ·rw[if_pos V,if_pos (aC.2 (by omega))];refine⟨rfl,rfl,E,⟨rfl,Blk.one r rfl⟩,(IW r 10 E).mono fun v h' ⟨e,r',k⟩=>?_⟩;exact⟨e,rfl,r',k⟩
  ·rw[if_neg V,if_neg (fun O=>V (by rw[aC]at O;omega))];have W:aG .i64 (E:Int) (N:Int)=((E+N:Nat):Int):=by rw[cF (by omega) (by omega)];omega
   obtain⟨h3,e3,b3,k3,_,w3⟩:=Blk.set r (o:=2) (v:=.int .i64 ((E+N:Nat):Int)) (by simp) rfl;refine⟨rfl,rfl,s,⟨rfl,Blk.one r rfl⟩,rfl,rfl,E,⟨rfl,Blk.one r rfl⟩,rfl,rfl,E,⟨rfl,Blk.one r rfl⟩,?_,rfl,rfl,E,⟨rfl,Blk.one r rfl⟩,rfl,rfl,rfl,h3,by rw[W];exact e3,?_,?_,k3⟩
   ·rw[W];unfold yA;omega
   ·rw[W,yB,show E+N - E=N by omega];rfl
   ·exact b3
theorem IN{b:Nat}{s:BA}{E:Nat}{f:Int}{h:Hp}(r:FM h b s E f)(ha:E<=s.size)(hs:s.size<=1099511627776):
  C 215 [pt b] h fun v h'=>v = .int .u8 ((kN 1 s E f).1:Nat)/\FM h' b s (kN 1 s E f).2.1 (kN 1 s E f).2.2/\Keep (· = b) h h':=by
 refine sv JM fun wf=>?_;refine(FB r).mono fun v h' ⟨e,V⟩=>?_;subst V;refine⟨_,e,?_⟩;unfold kN;by_cases W:f≠0
 ·rw[if_pos W,if_pos (decide_eq_true W)];exact⟨rfl,r,Keep.refl _ _⟩
 ·rw[if_neg W,if_neg (by simpa using W)];obtain rfl:f=0:=by simpa using W
  refine(Ex h').mono fun v ac ⟨e,V⟩=>?_;subst V;refine⟨_,e,(IV r ha hs).mono fun v h' ⟨e,V⟩=>?_⟩;subst V;refine⟨_,e,?_⟩;by_cases h2:s.size < E+1
  ·rw[if_pos h2,if_pos (aC.2 (by omega))];refine⟨rfl,rfl,E,⟨rfl,Blk.one r rfl⟩,(IW r 10 E).mono fun v h' ⟨e,r',k⟩=>?_⟩;exact⟨e,rfl,r',k⟩
  ·rw[if_neg h2,if_neg (fun U=>h2 (by rw[aC]at U;omega))];have hL:(s.data.toList.drop E).length=s.size - E:=by rw[Vf,VE];rfl
   refine⟨fun vals m hh=>∃i:Nat,[.int .u64 ((num ((s.data.toList.drop E).take i):Nat):Int),.int .i64 (i:Int)]=vals/\m=1 - i/\i<=1/\hh=h',⟨1,0,rfl,rfl,Uk _,rfl⟩,?_⟩;rintro n2 n3 m hh ⟨i,e,rfl,hi,rfl⟩;simp at e;obtain⟨rfl,rfl⟩:=e;by_cases U:bO (i:Int) 1=true
   ·rw[if_pos U];have ad:i < 1:=by rw[aC]at U;omega
    have ea:aG .i64 (E:Int) (i:Int)=((E+i:Nat):Int):=by rw[cF (by omega) (by omega)];omega
    obtain⟨u,hu,hb⟩:=jW (s:=s) (i:=E+i) (by omega);have G:num ((s.data.toList.drop E).take i) < 256 ^ i:=by
     have:=sJ ((s.data.toList.drop E).take i)
     rwa [Uq,hL,Vc (by omega)]at this
    have O:num ((s.data.toList.drop E).take i) < 72057594037927936:=Vj G (Nat.pow_le_pow_right (n:=256) (i:=i) (j:=7) (by omega) (by omega));refine⟨by simp[bR],rfl,rfl,s,⟨rfl,Blk.one r rfl⟩,rfl,rfl,E,⟨rfl,Blk.one r rfl⟩,?_,1 - (i+1),by simp only[aI];omega,i+1,?_,rfl,by omega,rfl⟩
    ·rw[ea];unfold bS aU;omega
    ·rw[ea,hb,Lx O,cF (by omega) (by omega),VG,Vp,hu];show [Value.int .u64 ((num (_++[u]):Nat):Int),_]=_;rw[sK]
     rfl
   ·rw[if_neg U];have aa:i=1:=by
     by_cases hq:i=1
     ·exact hq
     ·exact absurd (aC.2 (by omega)) U
    subst aa;have ea:aG .i64 (E:Int) 1=((E+1:Nat):Int):=by rw[cF (by omega) (by omega)];omega
    have G:num ((s.data.toList.drop E).take 1) < 256:=by
     have:=sJ ((s.data.toList.drop E).take 1)
     rwa [Uq,hL,Vc (by omega)]at this
    obtain⟨h3,e3,b3,k3,_,w3⟩:=Blk.set r (o:=2) (v:=.int .i64 ((E+1:Nat):Int)) (by simp) rfl;refine⟨rfl,rfl,E,⟨rfl,Blk.one r rfl⟩,rfl,rfl,rfl,h3,by rw[ea];exact e3,by rw[eF,Up (by omega)],b3,k3⟩
theorem Ey{b:Nat}{s:BA}{E:Nat}{f:Int}{h:Hp}(r:FM h b s E f)(ha:E<=s.size)(hs:s.size<=1099511627776):
  C 221 [pt b] h fun v h'=>v = .int .u32 ((kN 4 s E f).1:Nat)/\FM h' b s (kN 4 s E f).2.1 (kN 4 s E f).2.2/\Keep (· = b) h h':=by
 refine sv Fu fun wf=>?_;refine(FB r).mono fun v h' ⟨e,V⟩=>?_;subst V;refine⟨_,e,?_⟩;unfold kN;by_cases W:f≠0
 ·rw[if_pos W,if_pos (decide_eq_true W)];exact⟨rfl,r,Keep.refl _ _⟩
 ·rw[if_neg W,if_neg (by simpa using W)];obtain rfl:f=0:=by simpa using W
  refine(BY h').mono fun v ac ⟨e,V⟩=>?_;subst V;refine⟨_,e,(IV r ha hs).mono fun v h' ⟨e,V⟩=>?_⟩;subst V;refine⟨_,e,?_⟩;by_cases h2:s.size < E+4
  ·rw[if_pos h2,if_pos (aC.2 (by omega))];refine⟨rfl,rfl,E,⟨rfl,Blk.one r rfl⟩,(IW r 10 E).mono fun v h' ⟨e,r',k⟩=>?_⟩;exact⟨e,rfl,r',k⟩
  ·rw[if_neg h2,if_neg (fun U=>h2 (by rw[aC]at U;omega))];have hL:(s.data.toList.drop E).length=s.size - E:=by rw[Vf,VE];rfl
   refine⟨fun vals m hh=>∃i:Nat,[.int .u64 ((num ((s.data.toList.drop E).take i):Nat):Int),.int .i64 (i:Int)]=vals/\m=4 - i/\i<=4/\hh=h',⟨4,0,rfl,rfl,Uk _,rfl⟩,?_⟩;rintro n2 n3 m hh ⟨i,e,rfl,hi,rfl⟩;simp at e;obtain⟨rfl,rfl⟩:=e;by_cases U:bO (i:Int) 4=true
   ·rw[if_pos U];have ad:i < 4:=by rw[aC]at U;omega
    have ea:aG .i64 (E:Int) (i:Int)=((E+i:Nat):Int):=by rw[cF (by omega) (by omega)];omega
    obtain⟨u,hu,hb⟩:=jW (s:=s) (i:=E+i) (by omega);have G:num ((s.data.toList.drop E).take i) < 256 ^ i:=by
     have:=sJ ((s.data.toList.drop E).take i)
     rwa [Uq,hL,Vc (by omega)]at this
    have O:num ((s.data.toList.drop E).take i) < 72057594037927936:=Vj G (Nat.pow_le_pow_right (n:=256) (i:=i) (j:=7) (by omega) (by omega));refine⟨by simp[bR],rfl,rfl,s,⟨rfl,Blk.one r rfl⟩,rfl,rfl,E,⟨rfl,Blk.one r rfl⟩,?_,4 - (i+1),by simp only[aI];omega,i+1,?_,rfl,by omega,rfl⟩
    ·rw[ea];unfold bS aU;omega
    ·rw[ea,hb,Lx O,cF (by omega) (by omega),VG,Vp,hu];show [Value.int .u64 ((num (_++[u]):Nat):Int),_]=_;rw[sK]
     rfl
   ·rw[if_neg U];have aa:i=4:=by
     by_cases hq:i=4
     ·exact hq
     ·exact absurd (aC.2 (by omega)) U
    subst aa;have ea:aG .i64 (E:Int) 4=((E+4:Nat):Int):=by rw[cF (by omega) (by omega)];omega
    have G:num ((s.data.toList.drop E).take 4) < 4294967296:=by
     have:=sJ ((s.data.toList.drop E).take 4)
     rwa [Uq,hL,Vc (by omega)]at this
    obtain⟨h3,e3,b3,k3,_,w3⟩:=Blk.set r (o:=2) (v:=.int .i64 ((E+4:Nat):Int)) (by simp) rfl;refine⟨rfl,rfl,E,⟨rfl,Blk.one r rfl⟩,rfl,rfl,rfl,h3,by rw[ea];exact e3,by rw[nP,Up (by omega)],b3,k3⟩
end Go.Proofs.YtmapagggnigfpaaGreat.pk
namespace Go.Cn.Crc
open Go Go.Cn Go.Cn.Sha
end Go.Cn.Crc
namespace Go.Cn.Pk
open Go.Cn.Crc
def Fr(p w:Int):Prop:=(p=1024\/p=2048\/p=4096\/p=8192)/\1<=w/\w<=32
instance (p w:Int):Decidable (Fr p w):=by unfold Fr;infer_instance
theorem Fr.ge{p w:Int}(h:Fr p w):1024<=p/\p<=8192:=by obtain⟨h,_⟩:=h;omega
def b8(L:LU):LN:=L.map UInt8.toNat
def dD(n:Nat):LU:=List.replicate n 0
def pageErr(p w:Int)(kind no ver len:Nat):Int :=
 if ¬Fr p w then 2 else if kind < 1\/3 < kind then 50 else if(¬(2<=no/\no < 2147483648)\/ver < 1)\/1099511627776 < ver then 2 else if p - 32 < len then 4 else 0
end Go.Cn.Pk
namespace Go.Proofs.YtmapagggnigfpaaGreat.pk
open Go Go.Cn Go.Cn.Pk Go.Cn.Crc Go.Cn.Sha Go.Proofs Go.Proofs.YtmapagggnigfpaaGreat.vc
theorem fS{h h':Hp}(k:Kept h h'):Stay h h':=by
 refine⟨fun b cs t g hb hl=>?_,by first | exact k.oth | exact fun b o E G=>k.oth b o E G id⟩
 cases g with
 | none=>exact⟨k.ro _ _ _ hb,rfl⟩
 | some g =>
  obtain⟨E,G⟩:=k.rw _ _ _ _ hb id;refine⟨E,?_⟩;simpa[Hp.live,G]using hl
theorem uP{f:FuncId}{args:LV}{h:Hp}{X:Value}(G:SCalls Tryz.prog f args h fun v E=>v=X/\Kept h E)(O:f < Tryz.prog.funcs.size:=by exact of_decide_eq_true (by kernel_rfl))(hp:plainV 100 X=true:=by rfl):SCalls Tryz.prog f args h fun v E=>v=X/\E=h :=
 SCalls.trim O G fun v E ⟨e,k⟩=>⟨fS k,by rw[e];exact hp,e⟩
theorem cN(n a:Nat)(h:a+n < 9223372036854775808):aG .i64 (a:Int) (n:Int)=((a+n:Nat):Int):=by
 rw[cF (by omega) (by omega)];omega
def strc(s:BA):LV:=[.string s]
theorem dV(s:BA):(strc s).length=1:=rfl
def cat(L:List BA):LU:=L.flatMap fun s=>s.data.toList
abbrev frame(p w:Int):Value:=.agg (Array.mk [.int .i64 p,.int .i64 w])
theorem QY(p w:Int)(h:Hp):C 76 [frame p w] h fun v h'=>v = .int .i64 (bB .i64 p 32)/\h'=h:=by
 refine uP ?_;refine sv OT fun wf=>?_;intro O e1;obtain⟨b1,E,n1,G⟩:=aB wf e1;exact⟨rfl,p,⟨rfl,b1.one rfl⟩,rfl,E⟩
theorem wide(w:Int):aR (iE w 1) (qA w 32) false=decide (1<=w/\w<=32):=by
 rw[Va,bN,cK,eV,decide_eq_true_eq]
theorem TL(p w:Int)(h:Hp):C 45 [frame p w] h fun v h'=>v = .bool (decide (Fr p w))/\h'=h:=by
 refine uP ?_;refine sv RD fun wf=>?_;intro G e1;obtain⟨b1,k1,n1,aa⟩:=aB wf e1;have r0:G.cellsAt h.next 0 1=some [.int .i64 p]:=b1.one rfl;have r1:G.cellsAt h.next 1 1=some [.int .i64 w]:=b1.one rfl;refine⟨rfl,p,⟨rfl,r0⟩,?_⟩;have fin:(p=1024\/p=2048\/p=4096\/p=8192)->Value.bool (aR (iE w 1) (qA w 32) false) = .bool (decide (Fr p w)):=by
  intro hp;rw[wide];congr 1;rw[decide_eq_decide];unfold Fr;exact⟨fun hw=>⟨hp,hw⟩,fun hw=>hw.2⟩
 have go:(p=1024\/p=2048\/p=4096\/p=8192)->aN (some (Addr.mk h.next 0 none))=true/\∃(n:Int),(aN (some (Addr.mk h.next 1 none))=true/\G.cellsAt h.next 1 1=some [Value.int IntKind.i64 n])/\(iE n 1=true->aN (some (Addr.mk h.next 0 none))=true)/\∃(O:Int),(iE n 1=true->aN (some (Addr.mk h.next 1 none))=true/\G.cellsAt h.next 1 1=some [Value.int IntKind.i64 O])/\(Value.bool (aR (iE n 1) (qA O 32) false) = .bool (decide (Fr p w))/\Kept h G) :=
  fun hp=>⟨rfl,w,⟨rfl,r1⟩,fun _=>rfl,w,fun _=>⟨rfl,r1⟩,fin hp,k1⟩
 by_cases E:bX p 1024=true
 ·rw[if_pos E,if_pos E];exact go (by rw[aV]at E;omega)
 ·rw[if_neg E];by_cases U:bX p 2048=true
  ·rw[if_pos U,if_pos U];exact go (by rw[aV]at U;omega)
  ·rw[if_neg U];by_cases V:bX p 4096=true
   ·rw[if_pos V,if_pos V];exact go (by rw[aV]at V;omega)
   ·rw[if_neg V];by_cases W:bX p 8192=true
    ·rw[if_pos W];exact go (by rw[aV]at W;omega)
    ·rw[if_neg W];refine⟨?_,k1⟩;rw[aV]at E U V W;rw[decide_eq_false];intro hf;have:=hf.1
     omega
theorem Rz(x:Nat)(h:Hp):C 75 [.int .u32 (x:Int)] h fun v h'=>v = .bool (decide (2<=x/\x < 2147483648))/\h'=h:=by
 refine sv LJ fun wf=>?_;refine⟨?_,rfl⟩;congr 1;rw[Va,bN,cK,aC,decide_eq_true_eq]
 omega
abbrev SR(kind no ver:Nat)(body:BA):Value:=.agg (Array.mk [.int .u8 (kind:Int),.int .u32 (no:Int),.int .u64 (ver:Int),.string body])
theorem Po(p w:Int)(kind no ver:Nat)(body:BA)(h:Hp):C 46 [frame p w,SR kind no ver body] h fun v h'=>v = .int .i64 (pageErr p w kind no ver body.size)/\h'=h:=by
 refine uP ?_;refine sv JO fun wf=>?_;intro h1 e1 h2 e2;obtain⟨b1,k1,n1,U⟩:=aB wf e1;obtain⟨b2,k2,n2,aa⟩:=aB U e2;have b1:=Kept.blk k2 b1;have k:Kept h h2:=k1.trans wf k2 fF;refine⟨p,w,⟨rfl,(b1.cells (Vo rfl)).trans rfl⟩,(TL p w h2).mono fun v h3 ⟨e,G⟩=>?_⟩;subst G;refine⟨_,e,?_⟩;unfold pageErr;by_cases O:Fr p w
 ·rw[if_neg (by rw[decide_eq_true O];simp[aD]),if_neg (fun E=>E O)];refine⟨rfl,kind,⟨rfl,b2.one rfl⟩,fun _=>rfl,kind,fun _=>⟨rfl,b2.one rfl⟩,?_⟩;by_cases V:kind < 1\/3 < kind
  ·rw[if_pos V,if_pos (cG.2 (by rw[aC,aS];omega))];exact⟨rfl,k⟩
  ·rw[if_neg V,if_neg (fun E=>V (by rw[cG,aC,aS]at E;omega))];refine⟨rfl,no,⟨rfl,b2.one rfl⟩,(Rz no h3).mono fun v h4 ⟨e,G⟩=>?_⟩;subst G;refine⟨_,e,fun _=>rfl,ver,fun _=>⟨rfl,b2.one rfl⟩,fun _=>rfl,ver,fun _=>⟨rfl,b2.one rfl⟩,?_⟩;by_cases W:(¬(2<=no/\no < 2147483648)\/ver < 1)\/1099511627776 < ver
   ·rw[if_pos W,if_pos (by rw[cG,cG,gR,decide_eq_false_iff_not,aC,aS];omega)];exact⟨rfl,k⟩
   ·rw[if_neg W,if_neg (fun E=>W (by rw[cG,cG,gR,decide_eq_false_iff_not,aC,aS]at E;omega))];refine⟨rfl,body,⟨rfl,b2.one rfl⟩,p,w,⟨rfl,(b1.cells (Vo rfl)).trans rfl⟩,(QY p w h4).mono fun v h5 ⟨e,G⟩=>?_⟩;subst G;refine⟨_,e,⟨rfl,b2.one rfl⟩,?_⟩;have hp:=O.ge;rw[bY (by omega) (by omega)];by_cases hb:p - 32 < (body.size:Int)
    ·rw[if_pos hb,if_pos (aS.2 (by rw[aF];unfold aU;omega))];exact⟨rfl,k⟩
    ·rw[if_neg hb,if_neg (fun E=>hb (by rw[aS,aF]at E;unfold aU at E;omega))];exact⟨rfl,k⟩
 ·rw[if_pos (by rw[decide_eq_false O];rfl),if_pos O];exact⟨rfl,k⟩
end Go.Proofs.YtmapagggnigfpaaGreat.pk
namespace Go.Proofs.YtmapagggnigfpaaGreat.pk
open Cn Cn.Pk vc
theorem lF(n:Nat):zeroCells (Value.int .u8 0).cells.toList n=bc (dD n):=by
 rw[eU];unfold zeroCells dD;simp only[Value.cells,List.map_replicate]
 induction n with
 | zero=>rfl
 | succ n E=>rw[List.replicate_succ,List.flatten_cons,E,List.replicate_succ];rfl
theorem Ev{s u:BA}(h:s.size+u.size<=1099511627776):gW s u:=by
 unfold gW;have:IntKind.i64.max=9223372036854775807:=rfl;rw[this]
 omega
end Go.Proofs.YtmapagggnigfpaaGreat.pk
namespace Go.Cn.Pk
def cU(n:Nat):LU :=
 if h:n < 128 then [UInt8.ofNat n] else UInt8.ofNat (n % 128+128)::cU (n / 128)
termination_by n
decreasing_by omega
theorem mG{n:Nat}(h:n < 128):cU n=[UInt8.ofNat n]:=by rw[cU,dif_pos h]
theorem mH{n:Nat}(h:¬n < 128):cU n=UInt8.ofNat (n % 128+128)::cU (n / 128):=by rw[cU,dif_neg h]
def gI(s:BA):LU:=cU s.size++s.data.toList
theorem KJ(n k:Nat)(h:n < 128 ^ k)(O:1<=k):(cU n).length<=k:=by
 induction k generalizing n with
 | zero=>omega
 | succ k G =>
  by_cases E:n < 128
  ·rw[mG E];simp
  ·rw[mH E,Ux]
   cases k with
   | zero=>simp at h;omega
   | succ k =>
    have:=G (n / 128) (by rw[Nat.pow_succ]at h;exact Nat.div_lt_of_lt_mul (by rw[WN];exact h)) (by omega)
    omega
theorem eN{n:Nat}(h:n < 18446744073709551616):(cU n).length<=10:=KJ n 10 (Vj h (by decide)) (by omega)
def cV(d:LU):Nat->Int:=fun i=>((d.getD i 0).toNat:Int)
theorem aH{d:LU}{n:Nat}(h:d.length=n):aK .u8 n (cV d)=bc d:=by
 subst h;rw[eU];unfold aK cV;apply Vi;intro i;rw[VB,VB];by_cases hi:i < d.length
 ·rw[Uh hi,List.getElem?_range hi];simp[Uz,hi]
 ·rw[VI (by simp;omega),VI (by omega)]
  rfl
theorem SU:∀y:Fin 256,(y.val ||| 128)=y.val % 128+128:=by decide +kernel
theorem UU{a:Nat}(E:a < 256):(BitVec.ofInt IntKind.u8.bits (a:Int)).toNat=a:=by
 simp[IntKind.bits]
 omega
theorem KH(n:Nat):tL .u8 (cC .u8 (n:Int)) 128=((UInt8.ofNat (n % 128+128)).toNat:Int):=by
 rw[eF];have hm:n % 256 < 256:=Nat.mod_lt _ (by omega);have e:tL .u8 ((n % 256:Nat):Int) 128=((n % 256 % 128+128:Nat):Int):=by
  unfold tL;have E:(BitVec.ofInt IntKind.u8.bits 128).toNat=128:=by decide
  rw[BitVec.toNat_or,UU hm,E,Sha.wrap_u8,SU ⟨n % 256,hm⟩];congr 1;simp only
  omega
 rw[e,<-byteOf];congr 1
 omega
structure WS(S:NP)(h:Hp)(b:Nat)(L:LU):Prop where
 le:S b
 mem:∃a,Blk h b (some b) [.bool true,.slice a L.length L.length]/\Bd h 1 (fun g=>S g/\g≠b) a L.length L.length (bc L)
theorem WAt.ws{n0:Nat}{h:Hp}{b:Nat}{L:LU}(w:WAt n0 h b L):WS (n0<=·) h b L:=⟨w.le,w.mem⟩
theorem WS.wat{n0:Nat}{h:Hp}{b:Nat}{L:LU}(w:WS (n0<=·) h b L):WAt n0 h b L:=⟨w.le,w.mem⟩
theorem WS.keep{S S0:NP}{h h':Hp}{b:Nat}{L:LU}(w:WS S h b L)(wf:Wf h)(k:Keep S0 h h')(G:∀g,g < h.next->¬S0 g):WS S h' b L:=by
 obtain⟨hle,a,O,U⟩:=w;have hb:=O.glt wf;refine⟨hle,a,k.blk O fun x E=>by simp at E;subst E;exact G _ hb,?_⟩;exact((U.bound wf).keep k fun x E=>G _ E.2).mono fun g V=>V.1
theorem WS.keepS{S S0:NP}{h h':Hp}{b:Nat}{L:LU}(w:WS S h b L)(k:Keep S0 h h')(G:∀g,S g->¬S0 g):WS S h' b L:=by
 obtain⟨hle,a,O,U⟩:=w;exact⟨hle,a,k.blk O fun x E=>by simp at E;subst E;exact G _ hle,U.keep k fun x E=>G _ E.1⟩
theorem WS.less{S S':NP}{h:Hp}{b:Nat}{L:LU}(w:WS S h b L)(wf:Wf h)(hs:∀g,g < h.next->S g->S' g):WS S' h b L:=by
 obtain⟨hle,a,G,O⟩:=w;exact⟨hs _ (G.glt wf) hle,a,G,(O.bound wf).mono fun g E=>⟨hs _ E.2 E.1.1,E.1.2⟩⟩
theorem WS.mono{S S':NP}{h:Hp}{b:Nat}{L:LU}(w:WS S h b L)(hs:∀g,S g->S' g):WS S' h b L:=by
 obtain⟨hle,a,G,O⟩:=w;exact⟨hs _ hle,a,G,O.mono fun g E=>⟨hs _ E.1,E.2⟩⟩
section
variable {P:Program}
theorem WS.app{S:NP}{h h1:Hp}(wf:Wf h){t xt elem:TI}(ht:AppT P t xt elem 1 1){b:Nat}{L:LU}{a:OA}(V:Wf h1)(kk:Kept h h1)(hS:∀g,h.next<=g->S g)(W:S b)
  (hb:Blk h b (some b) [.bool true,.slice a L.length L.length]) (bd:Bd h 1 (fun g=>S g/\g≠b) a L.length L.length (bc L))
  {x:Value} {M:LU} (G:dC 1 x h1=some (M.length,bc M)) (hr:L.length+M.length<=1099511627776) :
  ∃a' O,aQ P t xt (.slice a L.length L.length) x h1=some (.slice a' (L++M).length (L++M).length,O)/\
   ∃U,O.store b 1 [.slice a' (L++M).length (L++M).length]=some U/\WS S U b (L++M)/\Keep S h U/\Wf U:=by
 have ae:=hb.glt wf;have af:=kk.next;obtain⟨a',O,e1,b1,k1,aa⟩:=Bd.append V ht (S:=fun g=>S g/\g≠b) (fun g E=>⟨hS g (by omega),by omega⟩) (bd.keep kk fF) G (by rw[aJ,Ve]) (aZ M) (bM (by omega));have ac:Blk O b (some b) [.bool true,.slice a L.length L.length]:=k1.blk (Kept.blk kk hb) fun x G=>by simp at G;subst G;exact fun hc=>hc.2 rfl
 obtain⟨U,e3,b3,k3,n3,w3⟩:=ac.set (o:=1) (v:=.slice a' (L.length+M.length) (L.length+M.length)) (by simp) rfl;rw[Ug];refine⟨a',O,e1,U,e3,⟨W,a',?_,?_⟩,?_,w3 aa⟩
 ·rw[Ug];exact b3
 ·rw[Ug,fM];exact b1.keep k3 fun x G hc=>G.2 hc
 ·have ad:Keep S h O:=(kk.mono wf (S':=S) fun _ _ hf=>hf.elim).trans wf (k1.mono V (S':=S) fun _ _ E=>E.1) fun _ _ E=>E;exact ad.trans wf (k3.mono aa (S':=S) fun _ _ E=>by subst E;exact W) fun _ _ E=>E
theorem WS.app1{S:NP}{h U:Hp}(wf:Wf h){t xt elem e:TI}(W:AppT P t xt elem 1 1){b:Nat}{L:LU}{a:OA}(hS:∀g,h.next<=g->S g)(G:S b)
  (hb:Blk h b (some b) [.bool true,.slice a L.length L.length]) (bd:Bd h 1 (fun g=>S g/\g≠b) a L.length L.length (bc L))
  {v:Int} {u:UInt8} (hv:v=u.toNat) (he:U=h.alloc [.int .u8 v] e) (hr:L.length+1<=1099511627776) :
  ∃a' V,aQ P t xt (.slice a L.length L.length) (.slice (some ⟨h.next,0,none⟩) 1 1) U=some (.slice a' (L++[u]).length (L++[u]).length,V)/\
   ∃E,V.store b 1 [.slice a' (L++[u]).length (L++[u]).length]=some E/\WS S E b (L++[u])/\Keep S h E/\Wf E:=by
 obtain⟨b1,k1,n1,O⟩:=aB wf he;refine WS.app wf W O k1 hS G hb bd (M:=[u]) ?_ hr;simp only[dC,Nat.one_mul];rw[b1.cells (by simp)];subst hv
 rfl
theorem WS.appS{S:NP}{h:Hp}(wf:Wf h){t xt elem:TI}(U:AppT P t xt elem 1 1){b:Nat}{L:LU}{a:OA}(V:∀g,h.next<=g->S g)(G:S b)
  (hb:Blk h b (some b) [.bool true,.slice a L.length L.length]) (bd:Bd h 1 (fun g=>S g/\g≠b) a L.length L.length (bc L))
  (s:BA) (hr:L.length+s.size<=1099511627776) :
  ∃a' O,aQ P t xt (.slice a L.length L.length) (.string s) h=some (.slice a' (L++s.data.toList).length (L++s.data.toList).length,O)/\
   ∃E,O.store b 1 [.slice a' (L++s.data.toList).length (L++s.data.toList).length]=some E/\WS S E b (L++s.data.toList)/\Keep S h E/\Wf E:=by
 have hl:s.data.toList.length=s.size:=VE;refine WS.app wf U wf (Keep.refl _ _) V G hb bd (M:=s.data.toList) ?_ (by rw[hl];exact hr);simp only[dC,if_true];rw[hl,lS]
end
end Go.Cn.Pk
namespace Go.Proofs.YtmapagggnigfpaaGreat.pk
open Cn Cn.Pk vc
theorem Nm{S:NP}{b:Nat}{L:LU}{h:Hp}(w:WS S h b L)(hS:∀g,h.next<=g->S g)(n:Nat)(hn:n < 18446744073709551616)(hl:L.length<=1099511620000):
  C 161 [pt b,.int .u64 (n:Int)] h fun v h'=>v = .tuple #[]/\WS S h' b (L++cU n)/\Keep S h h':=by
 refine sv OY fun wf=>?_;have w0:=w;obtain⟨G,a,hb,bd⟩:=w;have hf:=eN hn;refine⟨fun _=>rfl,fun _=>rfl,true,fun _=>⟨rfl,hb.one rfl⟩,?_⟩;rw[if_neg (by simp[aR,isN,aD])];refine⟨fun vals m W=>∃(x:Nat) (M:LU),[.int .u64 (x:Int)]=vals/\m=x/\cU n=M++cU x/\WS S W b (L++M)/\Keep S h W/\Wf W,⟨n,n,[],rfl,rfl,rfl,by simpa using w0,Keep.refl _ _,wf⟩,?_⟩;rintro n1 x W ⟨_,M,e,rfl,hM,w,k,O⟩;simp at e;subst e;have aa:M.length<=10:=by have:=congrArg List.length hM;rw[Ug]at this;omega
 obtain⟨_,a,hb,bd⟩:=w;by_cases hc:iE (x:Int) 128=true
 ·rw[if_pos hc];have hx:¬x < 128:=by rw[cK]at hc;omega
  refine⟨rfl,rfl,a,_,_,⟨rfl,hb.one rfl⟩,?_⟩;intro h1 e1;obtain⟨a',h2,e2,h3,e3,U,k3,V⟩:=WS.app1 O Cu (fun g E=>hS g (Nat.le_trans k.next E)) G hb bd (u:=UInt8.ofNat (x % 128+128)) (KH x) e1 (by rw[Ug];omega);refine⟨a',_,_,h2,e2,rfl,rfl,rfl,h3,e3,by simp[bR],x / 128,by simp only[aI];omega,x / 128,M++[UInt8.ofNat (x % 128+128)],?_,rfl,?_,?_,k.trans wf k3 fun _ _ E=>E,V⟩
  ·rw[show gL .u64 (x:Int) 7=_ from Sha.shrW_nat .u64 x 7 (by decide),WK]
  ·rw[hM,mH hx,Ut];rfl
  ·rw[Ut]at U;exact U
 ·rw[if_neg hc];have hx:x < 128:=by rw[cK]at hc;omega
  refine⟨rfl,rfl,a,_,_,⟨rfl,hb.one rfl⟩,?_⟩;intro h1 e1;obtain⟨a',h2,e2,h3,e3,U,k3,V⟩:=WS.app1 O Cu (fun g E=>hS g (Nat.le_trans k.next E)) G hb bd (u:=UInt8.ofNat x) (by rw[eF];exact Go.Cn.Pk.byteOf x) e1 (by rw[Ug];omega);refine⟨a',_,_,h2,e2,rfl,rfl,rfl,h3,e3,rfl,?_,k.trans wf k3 fun _ _ E=>E⟩;rw[hM,mG hx];rw[Ut]at U;exact U
theorem FF:AppT Tryz.prog 144 9 5 1 1:=AppT.of _ (by kernel_rfl)
theorem TB{S:NP}{b:Nat}{L:LU}{h:Hp}(w:WS S h b L)(hS:∀g,h.next<=g->S g){a:OA}{l c:Nat}{g:ON}{T:List BA}(sl:SlT strc 1 h g a l c T)(O:∀x,g=some x->¬S x)(hl:L.length+(cat T).length<=1099511620000)(ag:l<=1099511620000):
  C 162 [pt b,.slice a l c] h fun v h'=>v = .tuple #[]/\WS S h' b (L++cat T)/\Keep S h h':=by
 refine sv OR fun wf=>?_;have w0:=w;have hT:=sl.len;obtain⟨aa,a1,hb,bd⟩:=w;refine⟨fun _=>rfl,fun _=>rfl,true,fun _=>⟨rfl,hb.one rfl⟩,?_⟩;rw[if_neg (by simp[aR,isN,aD])];refine⟨fun vals m V=>∃i:Nat,[.int .i64 (i:Int)]=vals/\m=l - i/\i<=l/\WS S V b (L++cat (T.take i))/\Keep S h V/\Wf V,⟨l,0,rfl,rfl,Uk _,by simpa[cat]using w0,Keep.refl _ _,wf⟩,?_⟩;rintro n1 m V ⟨i,e,rfl,hi,w,k,ac⟩;simp at e;subst e;by_cases W:bO (i:Int) (aE l)=true
 ·rw[if_pos W];have U:i < l:=by rw[aC,aF]at W;omega
  have eb:T[i]? = some (T[i]'(by omega)):=Uh _;generalize T[i]'(by omega)=s at eb;have ad:=sl.keep k O;obtain⟨ha,G⟩:=ad.get dV eb (j:=0) (m:=1) (by omega);have ae:aA (off a) (i:Int) 1=off a+i * 1+0:=by unfold aA;rw[Uo];omega
  obtain⟨_,a1,hb,bd⟩:=w;have E:cat (T.take (i+1))=cat (T.take i)++s.data.toList:=by
   rw[VG,eb];simp[cat]
  have hle:(cat (T.take (i+1))).length<=(cat T).length:=by
   have:cat T=cat (T.take (i+1))++cat (T.drop (i+1)):=by unfold cat;rw[<-VX,WA]
   rw[this,Ug];omega
  rw[E,Ug]at hle;have ah:s.size=s.data.toList.length:=VE.symm;obtain⟨a',h2,e2,h3,e3,w3,k3,af⟩:=WS.appS ac FF (fun g O=>hS g (Nat.le_trans k.next O)) aa hb bd s (by rw[Ug];omega);refine⟨⟨ha,Ui _,by omega⟩,s,⟨rfl,by rw[ae];exact G⟩,rfl,rfl,a1,_,_,⟨rfl,hb.one rfl⟩,a',_,_,h2,e2,rfl,rfl,rfl,h3,e3,l - (i+1),by simp only[aI];omega,i+1,?_,rfl,by omega,?_,k.trans wf k3 fun _ _ O=>O,af⟩
  ·rw[show aG .i64 (i:Int) 1=_ from cN 1 i (by omega)]
  ·rw[E,<-Ut];exact w3
 ·rw[if_neg W];have U:i=l:=by
   by_cases hq:i=l
   ·exact hq
   ·exact absurd (aC.2 (by rw[aF];omega)) W
  subst U;refine⟨rfl,?_,k⟩;rw[Uj (by omega)]at w;exact w
end Go.Proofs.YtmapagggnigfpaaGreat.pk
namespace Go.Cn.Pk
def eT:LU->Nat->Nat->Option (Nat×LU)
 | [],_,_=>none
 | b::r,k,n =>
  if k=9/\1 < b.toNat\/0 < k/\b.toNat=0 then none
  else if b.toNat < 128 then some (n+b.toNat % 128 * 2 ^ (7 * k),r)
  else eT r (k+1) (n+b.toNat % 128 * 2 ^ (7 * k))
def dK(most:Nat)(L:LU):Option (Nat×LU) :=
 match eT L 0 0 with
 | some (n,r)=>if most < n then none else some (n,r)
 | none=>none
def fP(n:Nat)(L:LU):Option (LU×LU):=if L.length < n then none else some (L.take n,L.drop n)
def bV(n:Nat)(L:LU):Option (Nat×LU):=(fP n L).map fun(x,r)=>(num x,r)
def cX(most:Nat)(L:LU):Option (LU×LU):=(dK most L).bind fun(n,r)=>fP n r
def iG(L:LU):LU:=L++List.replicate (32 - L.length) 0
def dR(w:Nat)(L:LU):Option (LU×LU):=(fP w L).map fun(x,r)=>(iG x,r)
def RS(h:Hp)(b:Nat)(s:BA):Option LU->Prop
 | none=>∃(p:Nat) (f:Int),p<=s.size/\f≠0/\FM h b s p f
 | some L=>∃p:Nat,p<=s.size/\L=s.data.toList.drop p/\FM h b s p 0
theorem RS.glt{h:Hp}(wf:Wf h){b:Nat}{s:BA}{x:Option LU}(r:RS h b s x):b < h.next:=by
 cases x with
 | none=>obtain⟨p,f,_,_,r⟩:=r;exact Blk.glt wf r
 | some L=>obtain⟨p,_,_,r⟩:=r;exact Blk.glt wf r
theorem RS.keep{S:NP}{h h':Hp}{b:Nat}{s:BA}{x:Option LU}(r:RS h b s x)(k:Keep S h h')(hb:¬S b):RS h' b s x:=by
 have O:∀x,some b=some x->¬S x:=by intro x U;simp at U;subst U;exact hb
 cases x with
 | none=>obtain⟨p,f,E,G,r⟩:=r;exact⟨p,f,E,G,k.blk r O⟩
 | some L=>obtain⟨p,E,G,r⟩:=r;exact⟨p,E,G,k.blk r O⟩
theorem rest_len{s:BA}{p:Nat}(hp:p<=s.size):(s.data.toList.drop p).length=s.size - p:=by rw[Vf,VE];rfl
theorem Tm{n m k:Nat}(G:n < 2 ^ (7 * k))(hk:k<=9)(hm:m < 128)(O:m * 2 ^ (7 * k) < 18446744073709551616):
  tL .u64 (n:Int) (jM .u64 (cC .u64 (m:Int)) ((7 * k:Nat):Int))=((n+m * 2 ^ (7 * k):Nat):Int):=by
 have V:jM .u64 (cC .u64 (m:Int)) ((7 * k:Nat):Int)=((m * 2 ^ (7 * k):Nat):Int):=by
  rw[cQ,Up (by omega)];unfold jM;have:min ((7 * k:Nat):Int).toNat IntKind.u64.bits=7 * k:=by
   rw[Uo];show min (7 * k) 64=_;omega
  rw[this];have:(m:Int) * 2 ^ (7 * k)=((m * 2 ^ (7 * k):Nat):Int):=by simp
  rw[this,Go.Cn.Sha.wrap_u64,Up O]
 have hp:(2:Nat) ^ (7 * k)<=2 ^ 63:=Nat.pow_le_pow_right (by omega) (by omega);have E:n < 18446744073709551616:=by
  have:(2:Nat) ^ 63=9223372036854775808:=by decide
  omega
 rw[V];unfold tL;rw[BitVec.toNat_or,Pv E,Pv O,Go.Cn.Sha.wrap_u64];have U:n ||| m * 2 ^ (7 * k)=n+m * 2 ^ (7 * k):=by
  have:=Nat.shiftLeft_add_eq_or_of_lt (a:=m) (b:=n) (i:=7 * k) G;rw[Nat.shiftLeft_eq]at this;rw[Nat.or_comm,<-this,Nat.add_comm]
 rw[U];have W:n+m * 2 ^ (7 * k) < 18446744073709551616:=by
  have:=Nat.shiftLeft_add_eq_or_of_lt (a:=m) (b:=n) (i:=7 * k) G;have hl:n ||| m * 2 ^ (7 * k) < 2 ^ 64:=Nat.or_lt_two_pow (by omega) (by omega);rw[U]at hl
  omega
 rw[Up W]
theorem SJ(u:UInt8):iD .u8 (u.toNat:Int) 127=((u.toNat % 128:Nat):Int):=by
 have:∀y:Fin 256,(y.val &&& 127)=y.val % 128:=by decide +kernel
 have hu:=u.toNat_lt;unfold iD;have E:(BitVec.ofInt IntKind.u8.bits 127).toNat=127:=by decide
 rw[BitVec.toNat_and,UU hu,E,Go.Cn.Sha.wrap_u8,this ⟨u.toNat,hu⟩,Up (by have:=Nat.mod_lt u.toNat (y:=128) (by omega);omega)]
end Go.Cn.Pk
namespace Go.Proofs.YtmapagggnigfpaaGreat.pk
open Cn Cn.Pk vc
abbrev got{α β:Type}(x:Option (α×β))(d:α):α:=match x with | some (a,_)=>a | none=>d
abbrev left{α β:Type}(x:Option (α×β)):Option β:=x.map (·.2)
theorem pE{b:Nat}{s:BA}{x:Option LU}{h:Hp}(r:RS h b s x):C 224 [pt b] h fun v h'=>v = .bool x.isNone/\h'=h:=by
 cases x with
 | none =>
  obtain⟨p,f,_,G,r⟩:=r;exact(FB r).mono fun v h' ⟨e,E⟩=>⟨by rw[e,decide_eq_true G];rfl,E⟩
 | some L =>
  obtain⟨p,_,_,r⟩:=r;exact(FB r).mono fun v h' ⟨e,E⟩=>⟨by rw[e];rfl,E⟩
theorem Cp{b:Nat}{s:BA}{L:LU}{h:Hp}(r:RS h b s (some L))(hs:s.size<=1099511627776):C 225 [pt b] h fun v h'=>v = .int .i64 (L.length:Int)/\h'=h:=by
 obtain⟨p,hp,e,r⟩:=r;refine(IV r hp hs).mono fun v h' ⟨e',E⟩=>⟨?_,E⟩;rw[e',e,rest_len hp];congr 1
 omega
theorem Cr{b:Nat}{s:BA}{p:Nat}{f:Int}{h:Hp}(r:FM h b s p f)(code:Int)(E:code≠0)(q:Nat)(G:q<=s.size):C 226 [pt b,.int .i64 code,.int .i64 (q:Int)] h fun v h'=>v = .tuple #[]/\RS h' b s none/\Keep (· = b) h h' :=
 (IW r code q).mono fun v h' ⟨e,r',k⟩=>⟨e,⟨q,code,G,E,r'⟩,k⟩
set_option maxRecDepth 100000 in
theorem HQ{b:Nat}{s:BA}{x:Option LU}{h:Hp}(r:RS h b s x)(hs:s.size<=1099511627776)(E:Nat):
  C 227 [pt b,.int .u64 (E:Int)] h fun v h'=>v = .int .u64 ((got (x.bind (dK E)) 0:Nat):Int)/\RS h' b s (left (x.bind (dK E)))/\Keep (· = b) h h':=by
 refine sv Lb fun wf=>?_;refine(pE r).mono fun v h' ⟨e,eh⟩=>?_;subst eh;refine⟨_,e,?_⟩
 cases x with
 | none=>rw[if_pos (show(none:Option LU).isNone=true from rfl)];exact⟨rfl,r,Keep.refl _ _⟩
 | some L =>
  rw[if_neg (by simp)];obtain⟨p,hp,rfl,r⟩:=r;have hL:=rest_len hp;refine⟨rfl,rfl,(p:Int),⟨rfl,Blk.one r rfl⟩,?_⟩;refine⟨fun vals m hh=>∃(k n:Nat),[.int .u64 (n:Int),.int .i64 ((p+k:Nat):Int),.int .u64 ((7 * k:Nat):Int)]=vals/\m=s.size - (p+k)/\p+k<=s.size/\k<=9/\n < 2 ^ (7 * k)/\eT (s.data.toList.drop p) 0 0=eT (s.data.toList.drop (p+k)) k n/\hh=h',⟨_,0,0,rfl,rfl,by omega,by omega,by decide,rfl,rfl⟩,?_⟩;rintro n1 n2 n3 m hh ⟨k,n,e,rfl,hk,ad,hn,hg,rfl⟩;simp only[Ur,Value.int.injEq,true_and,and_true]at e;obtain⟨rfl,rfl,rfl⟩:=e;have fail:∀(code:Int),code≠0->dK E (s.data.toList.drop p)=none->((some (Addr.mk b 0 none)).isSome=true/\
    aN (some (Addr.mk b 0 none))=true/\∃(n:Int),(aN (some (Addr.mk b 2 none))=true/\hh.cellsAt b 2 1=some [Value.int IntKind.i64 n])/\C 226 [Value.pointer (some (Addr.mk b 0 none)),Value.int IntKind.i64 code,Value.int IntKind.i64 n] hh fun(v:Value) (h':Hp)=>v=Value.tuple (Array.mk [])/\
     ((Value.int IntKind.u64 0 = .int .u64 ((got ((some (s.data.toList.drop p)).bind (dK E)) 0:Nat):Int))/\RS h' b s (left ((some (s.data.toList.drop p)).bind (dK E)))/\Keep (· = b) hh h')):=by
   intro code V hf;refine⟨rfl,rfl,(p:Int),⟨rfl,Blk.one r rfl⟩,(Cr r code V p hp).mono fun v h' ⟨e,r',k'⟩=>?_⟩;simp only[Ul,hf];exact⟨e,rfl,r',k'⟩
  refine⟨rfl,rfl,s,⟨rfl,Blk.one r rfl⟩,?_⟩;by_cases h1:bX ((p+k:Nat):Int) (aE (aU s))=true
  ·rw[if_pos h1];have:p+k=s.size:=by rw[aV,aF]at h1;unfold aU at h1;omega
   refine fail 10 (by decide) ?_;unfold dK;rw[hg,VV (by rw[VE];show s.size<=_;omega)]
   rfl
  ·rw[if_neg h1];have ae:p+k < s.size:=by
    have:¬(p+k=s.size):=fun V=>h1 (by rw[aV,aF];unfold aU;omega)
    omega
   obtain⟨u,hu,hb⟩:=jW (s:=s) (i:=p+k) ae;have ag:=u.toNat_lt;have G:s.data.toList.drop (p+k)=u::s.data.toList.drop (p+(k+1)):=by
    obtain⟨hl,rfl⟩:=Us.1 hu;rw[WI hl];rfl
   refine⟨rfl,rfl,s,⟨rfl,Blk.one r rfl⟩,by unfold bS aU;omega,?_⟩;rw[hb];have O:(aR (aR (bX ((7 * k:Nat):Int) 63) (dB (u.toNat:Int) 1) false) true (aR (dB ((7 * k:Nat):Int) 0) (bX (u.toNat:Int) 0) false)=true)↔(k=9/\1 < u.toNat\/0 < k/\u.toNat=0):=by
    rw[cG,bN,bN,aV,aS,aS,aV]
    omega
   by_cases h2:(k=9/\1 < u.toNat\/0 < k/\u.toNat=0)
   ·rw[if_pos (O.2 h2)];refine fail 11 (by decide) ?_;unfold dK;rw[hg,G];unfold eT;rw[if_pos h2]
   ·rw[if_neg (fun V=>h2 (O.1 V))];have hm:u.toNat % 128 < 128:=Nat.mod_lt _ (by omega);have hx:u.toNat % 128 * 2 ^ (7 * k) < 18446744073709551616:=by
     by_cases af:k=9
     ·subst af;have:u.toNat % 128<=1:=by omega
      exact WO (VU _ this) (by decide)
     ·have:(2:Nat) ^ (7 * k)<=2 ^ 56:=Nat.pow_le_pow_right (by omega) (by omega);exact WO (WB (Nat.le_of_lt_succ (Nat.lt_succ_of_lt hm)) this) (by decide)
    have aa:tL .u64 (n:Int) (jM .u64 (cC .u64 (iD .u8 (u.toNat:Int) 127)) ((7 * k:Nat):Int))=((n+u.toNat % 128 * 2 ^ (7 * k):Nat):Int):=by
     rw[SJ];exact Tm hn ad hm hx
    rw[aa];refine⟨by unfold bR;omega,?_⟩;have ea:aG .i64 ((p+k:Nat):Int) 1=((p+(k+1):Nat):Int):=by rw[cF (by omega) (by omega)];omega
    rw[ea];by_cases W:bO (u.toNat:Int) 128=true
    ·rw[if_pos W];have U:u.toNat < 128:=by rw[aC]at W;omega
     have ac:eT (s.data.toList.drop p) 0 0=some (n+u.toNat % 128 * 2 ^ (7 * k),s.data.toList.drop (p+(k+1))):=by
      rw[hg,G];unfold eT;rw[if_neg h2,if_pos U]
     by_cases h4:dB ((n+u.toNat % 128 * 2 ^ (7 * k):Nat):Int) (E:Int)=true
     ·rw[if_pos h4];refine fail 12 (by decide) ?_;unfold dK;rw[ac];simp only;rw[if_pos (by rw[aS]at h4;omega)]
     ·rw[if_neg h4];have hf:dK E (s.data.toList.drop p)=some (n+u.toNat % 128 * 2 ^ (7 * k),s.data.toList.drop (p+(k+1))):=by
       unfold dK;rw[ac];simp only;rw[if_neg (fun V=>h4 (by rw[aS];omega))]
      obtain⟨W,e3,b3,k3,_,w3⟩:=Blk.set r (o:=2) (v:=.int .i64 ((p+(k+1):Nat):Int)) (by simp) rfl;refine⟨rfl,rfl,rfl,W,e3,?_,?_,k3⟩
      ·simp only[Ul,hf]
      ·simp only[Ul,hf];exact⟨p+(k+1),by omega,rfl,b3⟩
    ·rw[if_neg W];have U:¬u.toNat < 128:=fun V=>W (by rw[aC];omega);have ah:k≠9:=by rintro rfl;omega
     refine⟨s.size - (p+(k+1)),by simp only[aI];omega,k+1,n+u.toNat % 128 * 2 ^ (7 * k),?_,rfl,by omega,by omega,?_,?_,rfl⟩
     ·rw[show aG .u64 ((7 * k:Nat):Int) 7=((7 * (k+1):Nat):Int) by
       unfold aG;have:((7 * k:Nat):Int)+7=((7 * (k+1):Nat):Int):=by omega
       rw[this,Go.Cn.Sha.wrap_u64,Up (by omega)]]
     ·have e7:(2:Nat) ^ (7 * (k+1))=128 * 2 ^ (7 * k):=by
       rw[show 7 * (k+1)=7+7 * k by omega,Nat.pow_add]
      rw[e7];have:u.toNat % 128 * 2 ^ (7 * k)<=127 * 2 ^ (7 * k):=VU _ (by omega)
      omega
     ·rw[hg,G]
      conv=>lhs;unfold eT
      rw[if_neg h2,if_neg U]
theorem Ot{S:NP}{b:Nat}{L:LU}{h:Hp}(w:WS S h b L)(hS:∀g,h.next<=g->S g)(x:Nat)(hx:x<=4294967295)(hl:L.length<=1099511620000):
  C 138 [pt b,.int .u32 (x:Int)] h fun v h'=>v = .tuple #[]/\WS S h' b (L++be 4 x)/\Keep S h h':=by
 refine sv JN fun wf=>?_;have w0:=w;obtain⟨O,a,hb,bd⟩:=w;refine⟨fun _=>rfl,fun _=>rfl,true,fun _=>⟨rfl,hb.one rfl⟩,?_⟩;rw[if_neg (by simp[aR,isN,aD])];refine(BY h).mono fun v h' ⟨e,eh⟩=>?_;subst eh;refine⟨4,e,fun vals m E=>∃i:Nat,[.int .i64 ((i:Int) - 1)]=vals/\m=i/\i<=4/\WS S E b (L++(be 4 x).take (4 - i))/\Keep S h' E/\Wf E,⟨4,4,rfl,rfl,Uf _,by simpa using w0,Keep.refl _ _,wf⟩,?_⟩;rintro n i E ⟨_,e,rfl,hi,w,k,U⟩;simp at e;subst e;by_cases G:iE ((i:Int) - 1) 0=true
 ·rw[if_pos G];have ac:1<=i:=by rw[cK]at G;omega
  obtain⟨j,rfl⟩:∃j:Nat,i=j+1:=⟨i - 1,by omega⟩;obtain⟨_,a,hb,bd⟩:=w;have ej:(((j+1:Nat):Int) - 1)=(j:Int):=by omega
  rw[ej];refine⟨rfl,rfl,a,_,_,⟨rfl,hb.one rfl⟩,EC j (by omega),?_⟩;intro h1 e1;have hlen:((be 4 x).take (4 - (j+1))).length=4 - (j+1):=by rw[Uq,cO];omega
  obtain⟨a',h2,e2,h3,e3,w3,k3,V⟩:=WS.app1 U Cu (fun g W=>hS g (Nat.le_trans k.next W)) O hb bd (u:=UInt8.ofNat (x >>> (8 * j))) (Nr x j (by omega) (by omega)) e1 (by rw[Ug,hlen];omega);refine⟨a',_,_,h2,e2,rfl,rfl,rfl,h3,e3,j,by simp only[aI];omega,j,?_,rfl,by omega,?_,k.trans wf k3 fun _ _ W=>W,V⟩
  ·rw[bY (by omega) (by omega)]
  ·rw[Ut,IZ 4 x j (by omega)]at w3;exact w3
 ·rw[if_neg G];have aa:i=0:=by
   by_cases hq:i=0
   ·exact hq
   ·exact absurd (cK.2 (by omega)) G
  subst aa;refine⟨rfl,?_,k⟩;rw[Uj (by rw[cO];omega)]at w;exact w
theorem QJ{S:NP}{b:Nat}{L:LU}{h G:Hp}{e:TI}(w:WS S h b L)(wf:Wf h)(hS:∀g,h.next<=g->S g)(s:BA)(he:G=h.alloc [.string s] e)(hl:L.length+s.size<=1099511620000):
  C 162 [pt b,.slice (some ⟨h.next,0,none⟩) 1 1] G fun v h'=>v = .tuple #[]/\WS S h' b (L++s.data.toList)/\Keep S h h'/\Wf h':=by
 obtain⟨b1,V,n1,O⟩:=aB wf he;have sl:SlT strc 1 G (some h.next) (some ⟨h.next,0,none⟩) 1 1 [s]:=by
  exact⟨⟨Uf _,rfl,.inl rfl,fun _=>⟨[.string s],b1,Uf _,rfl⟩⟩,rfl⟩
 have w1:WS (fun g=>S g/\g≠h.next) G b L:=(w.less (S':=fun g=>S g/\g≠h.next) wf fun g E hs=>⟨hs,by omega⟩).keep wf V fF;refine(TB w1 (fun g E=>⟨hS g (by omega),by omega⟩) sl (fun x W hc=>by simp at W;exact hc.2 W.symm) (by simpa[cat]using hl) (by omega)).wf fun v h' U hn ⟨e,w',k⟩=>⟨e,?_,?_,U⟩
 ·have:=w'.mono (S':=S) fun _ E=>E.1;simpa[cat]using this
 ·exact(V.mono wf (S':=S) fun _ _ hf=>hf.elim).trans wf (k.mono O (S':=S) fun _ _ E=>E.1) fun _ _ E=>E
theorem Nf{S:NP}{b:Nat}{L:LU}{h:Hp}(w:WS S h b L)(G:∀g,h.next<=g->S g)(s:BA)(hl:L.length+s.size<=1099511610000):
  C 134 [pt b,.string s] h fun v h'=>v = .tuple #[]/\WS S h' b (L++gI s)/\Keep S h h':=by
 refine sv LW fun wf=>?_;have W:=eN (n:=s.size) (by omega);have e0:cC .u64 (aE (aU s))=((s.size:Nat):Int):=by rw[aF,cQ,Up (by have:aU s=s.size:=rfl;omega)];rfl
 rw[e0];refine(Nm w G s.size (by omega) (by omega)).wf fun v h' E hn ⟨e,w',k⟩=>⟨e,?_⟩;intro h1 e1;refine(QJ w' E (fun g O=>G g (by omega)) s e1 (by rw[Ug];omega)).mono fun v h2 ⟨e,U,V,_⟩=>⟨e,rfl,?_,k.trans wf V fun _ _ O=>O⟩;unfold gI;rw[<-Ut];exact U
def inW(w:Int):Nat:=(max 0 (min w 32)).toNat
theorem Gp(w:Int):inW w<=32:=by unfold inW;omega
theorem Rh(w:Int):pX 0 (wU w 32)=(inW w:Int):=by unfold inW pX wU;omega
theorem Qe(n:Int)(h:Hp):C 164 [.int .i64 n] h fun v h'=>v = .int .i64 (inW n:Int)/\h'=h:=by
 refine sv OP fun wf=>?_;rw[Rh];exact⟨rfl,rfl⟩
theorem IX{S:NP}{b:Nat}{L:LU}{h:Hp}(w:WS S h b L)(hS:∀g,h.next<=g->S g)(n:Int)(d:LU)(G:d.length=32)(hl:L.length<=1099511610000):
  C 139 [pt b,.int .i64 n,.agg (bc d).toArray] h fun v h'=>v = .tuple #[]/\WS S h' b (L++d.take (inW n))/\Keep S h h':=by
 rw[<-aH G];refine sv Ft fun wf=>?_;intro h1 e1;rw[aH G]at e1;obtain⟨b1,O,n1,E⟩:=aB wf e1;refine(Qe n h1).mono fun v U ⟨e,e2⟩=>?_;subst e2;have hw:=Gp n;refine⟨_,e,⟨?_,rfl⟩,str (d.take (inW n)),?_,?_⟩
 ·simp only[jO,aF];omega
 ·right
  refine⟨rfl,bc (d.take (inW n)),?_,by rw[pF,jC]⟩;show U.cellsAt h.next (0+(0:Int).toNat * 1) (((inW n:Nat):Int).toNat - (0:Int).toNat)=_;rw[b1.cells (by rw[aJ];simp;omega)];simp[eU]
 intro h3 e3;have w1:WS S U b L:=w.keep wf O fF;refine(QJ w1 E (fun g V=>hS g (by omega)) _ e3 (by rw[eQ,Uq];omega)).mono fun v h4 ⟨e,W,k4,_⟩=>⟨e,rfl,?_,(O.mono wf (S':=S) fun _ _ hf=>hf.elim).trans wf k4 fun _ _ V=>V⟩;rw[jC]at W;exact W
end Go.Proofs.YtmapagggnigfpaaGreat.pk
namespace Go.Cn.Pk
abbrev PairT:=BA×BA
def pairC(p:PairT):LV:=[.string p.1,.string p.2]
theorem gZ(p:PairT):(pairC p).length=2:=rfl
def dT(p:PairT):LU:=gI p.1++gI p.2
structure KidT where
 page:Nat
 sum:LU
 hp:page<=4294967295
 hs:sum.length=32
def kidC(k:KidT):LV:=[.int .u32 (k.page:Int)]++bc k.sum
theorem dL(k:KidT):(kidC k).length=33:=by unfold kidC;rw[Ug,aJ,k.hs];rfl
theorem jT(k:KidT):(kidC k).all isCell=true:=by unfold kidC;rw[Vt,aZ];rfl
def kS(g:Bool)(w:Int)(K:List BA)(k:KidT)(i:Nat):LU :=
 (if 0 < i then gI (K.getD (i - 1) .empty) else [])++(if g then be 4 k.page else [])++k.sum.take (Go.Proofs.YtmapagggnigfpaaGreat.pk.inW w)
def BB(ps:List PairT):LU:=be 1 1++(cU ps.length++ps.flatMap dT)
def gB(g:Bool)(w:Int)(K:List BA)(ks:List KidT):LU:=(ks.zipIdx.map fun x=>kS g w K x.1 x.2).flatten
def pG(g:Bool)(w:Int)(K:List BA)(ks:List KidT):LU:=be 1 2++(cU ks.length++gB g w K ks)
theorem oD{α:Type}(f:α->LU){L:List α}{i:Nat}{x:α}(E:L[i]? = some x):(L.take (i+1)).flatMap f=(L.take i).flatMap f++f x:=by
 rw[VG,E];simp
theorem tW{α:Type}(f:α->LU)(L:List α)(i:Nat):((L.take i).flatMap f).length<=(L.flatMap f).length:=by
 have:L.flatMap f=(L.take i).flatMap f++(L.drop i).flatMap f:=by rw[<-VX,WA]
 rw[this,Ug];omega
theorem oS{g:Bool}{w:Int}{K:List BA}{L:List KidT}{i:Nat}{x:KidT}(E:L[i]? = some x):gB g w K (L.take (i+1))=gB g w K (L.take i)++kS g w K x i:=by
 have hi:i < L.length:=by
  rcases Nat.lt_or_ge i L.length with h | h
  ·exact h
  ·rw[VI h]at E;simp at E
 rw[VG,E];simp[gB,List.zipIdx_append,Vc (Nat.le_of_lt hi)]
theorem rW{g:Bool}{w:Int}{K:List BA}(L:List KidT)(i:Nat):(gB g w K (L.take i)).length<=(gB g w K L).length:=by
 have:gB g w K L=gB g w K (L.take i)++(((L.drop i).zipIdx (0+(L.take i).length)).map fun x=>kS g w K x.1 x.2).flatten:=by
  unfold gB
  conv=>lhs;rw[<-WA i L,List.zipIdx_append,VY,List.flatten_append]
 rw[this,Ug];omega
end Go.Cn.Pk
namespace Go.Proofs.YtmapagggnigfpaaGreat.pk
open Cn Cn.Pk vc
theorem Kc{S:NP}{b:Nat}{L:LU}{h:Hp}(w:WS S h b L)(hS:∀g,h.next<=g->S g)(k v:BA)(hl:L.length+(k.size+v.size)<=1099511600000):
  C 133 [pt b,.agg #[.string k,.string v]] h fun r h'=>r = .tuple #[]/\WS S h' b (L++dT (k,v))/\Keep S h h':=by
 refine sv DW fun wf=>?_;intro U e1;obtain⟨b1,V,n1,G⟩:=aB wf e1;have w1:WS (fun g=>S g/\g≠h.next) U b L:=(w.less (S':=fun g=>S g/\g≠h.next) wf fun g E hs=>⟨hs,by omega⟩).keep wf V fF;have O:∀g,U.next<=g->S g/\g≠h.next:=fun g E=>⟨hS g (by omega),by omega⟩;have W:=eN (n:=k.size) (by omega);have aa:k.data.toList.length=k.size:=VE;refine⟨rfl,k,⟨rfl,b1.one rfl⟩,?_⟩;refine(Nf w1 O k (by omega)).wf fun r h2 ac ad ⟨e,w2,k2⟩=>?_;have b2:=k2.blk b1 fun x hx hc=>by simp at hx;exact hc.2 hx.symm
 refine⟨e,rfl,v,⟨rfl,b2.one rfl⟩,?_⟩;refine(Nf w2 (fun g E=>O g (by omega)) v (by rw[Ug];unfold gI;rw[Ug];omega)).mono fun r h3 ⟨e,w3,k3⟩=>⟨e,rfl,?_,?_⟩
 ·have:=w3.mono (S':=S) fun _ E=>E.1;unfold dT;rw[<-Ut];exact this
 ·exact(V.mono wf (S':=S) fun _ _ W=>W.elim).trans wf ((k2.trans G k3 fun _ _ E=>E).mono G (S':=S) fun _ _ E=>E.1) fun _ _ E=>E
theorem textB_len(s:BA):(gI s).length=(cU s.size).length+s.size:=by
 unfold gI;rw[Ug,VE];rfl
theorem Kd{S:NP}{b:Nat}{L:LU}{h:Hp}(w:WS S h b L)(hS:∀g,h.next<=g->S g){a:OA}{l c:Nat}{gr:ON}{ps:List PairT}(sl:SlT pairC 2 h gr a l c ps)(O:∀x,gr=some x->¬S x)(ah:l<=1099511600000)(hl:L.length+10+(ps.flatMap dT).length<=1099511600000):
  C 132 [pt b,.slice a l c,.func (.func 133) #[] #[]] h fun r h'=>r = .tuple #[]/\WS S h' b (L++(cU ps.length++ps.flatMap dT))/\Keep S h h':=by
 refine sv DX fun wf=>?_;have aa:=sl.len;refine⟨fun _=>rfl,fun _=>rfl,true,fun _=>⟨rfl,by obtain⟨_,a,hb,_⟩:=w;exact hb.one rfl⟩,?_⟩;rw[if_neg (by simp[aR,isN,aD])];have hf:=eN (n:=ps.length) (by omega);rw[aF,cQ,Up (by omega)];refine(Nm w hS l (by omega) (by omega)).wf fun v h1 ac ai ⟨e,w1,k1⟩=>⟨e,?_⟩;refine⟨fun vals m W=>∃i:Nat,[.int .i64 (i:Int)]=vals/\m=l - i/\i<=l/\WS S W b (L++cU ps.length++(ps.take i).flatMap dT)/\Keep S h W/\Wf W,⟨l,0,rfl,rfl,Uk _,by rw[aa];simpa using w1,k1,ac⟩,?_⟩;rintro n1 m W ⟨i,e,rfl,hi,w,k,E⟩;simp at e;subst e;by_cases hc:bO (i:Int) (l:Int)=true
 ·rw[if_pos hc];have U:i < l:=by rw[aC]at hc;omega
  obtain⟨p,eb⟩:∃p,ps[i]? = some p:=⟨_,Uh (by omega)⟩;obtain⟨s1,s2⟩:=p;have ad:=sl.keep k O;obtain⟨ha,G⟩:=ad.get gZ eb (j:=0) (m:=2) (by omega);have ae:aA (off a) (i:Int) 2=off a+i * 2+0:=by unfold aA;rw[Uo];omega
  have aj:=k.next;refine⟨⟨ha,Ui _,by omega⟩,s1,s2,⟨rfl,by rw[ae];exact G⟩,?_⟩;intro h2 e2;obtain⟨b2,k2,n2,af⟩:=aB E e2;obtain⟨h3,e3,b3,k3,_,n3,ak⟩:=bP af (vs:=[.string s1,.string s2]) b2 k2 E (Uf _) rfl rfl;have hle:=tW dT ps (i+1);have heq:=oD dT eb;have V:=hle;rw[heq,Ug]at V;have al:(dT (s1,s2)).length=(cU s1.size).length+s1.size+((cU s2.size).length+s2.size):=by unfold dT;rw[Ug,textB_len,textB_len]
  refine⟨rfl,h3,e3,s1,s2,⟨rfl,by rw[b3.cells (by simp)];rfl⟩,?_⟩;refine(Kc (w.keep E k3 fF) (fun g O=>hS g (by omega)) s1 s2 (by rw[Ug,Ug];omega)).wf fun r h4 ag an ⟨e,w4,k4⟩=>⟨e,l - (i+1),by simp only[aI];omega,i+1,?_,rfl,by omega,?_,?_,ag⟩
  ·rw[show aG .i64 (i:Int) 1=_ from cN 1 i (by omega)]
  ·rw[heq,<-Ut];exact w4
  ·exact k.trans wf ((k3.mono E (S':=S) fun _ _ hf=>hf.elim).trans E k4 fun _ _ O=>O) fun _ _ O=>O
 ·rw[if_neg hc];have U:i=l:=by
   by_cases hq:i=l
   ·exact hq
   ·exact absurd (aC.2 (by omega)) hc
  subst U;refine⟨rfl,?_,k⟩;rw[Uj (by omega),Ut]at w;exact w
structure KidEnv(h:Hp)(i n g f:Nat)(ix:Nat)(K:List BA)(gr:ON)(gb:Bool)(p w:Int):Prop where
 ctr:Blk h i (some i) [.int .i64 (ix:Int)]
 node:∃s1 s3 a l c,Blk h n (some n) [s1,.slice a l c,s3]/\SlT strc 1 h gr a l c K
 flag:Blk h g (some g) [.bool gb]
 par:Blk h f (some f) [.int .i64 p,.int .i64 w]
theorem KidEnv.keep{S:NP}{h h':Hp}{i n g f ix:Nat}{K:List BA}{gr:ON}{gb:Bool}{p w:Int}(e:KidEnv h i n g f ix K gr gb p w)(k:Keep S h h')(hi:¬S i)(hn:¬S n)(hg:¬S g)(hf:¬S f)(hr:∀x,gr=some x->¬S x):KidEnv h' i n g f ix K gr gb p w:=by
 obtain⟨G,⟨s1,s3,a,l,c,O,U⟩,V,W⟩:=e;refine⟨k.blk G ?_,⟨s1,s3,a,l,c,k.blk O ?_,U.keep k hr⟩,k.blk V ?_,k.blk W ?_⟩ <;> (intro x E;simp at E;subst E;assumption)
theorem Px(x:Nat):(be 4 x).length=4:=cO 4 x
def IA(b i g f m:Nat)(K:KT)(h':Hp):Prop :=
 ∃(n:Int),
 (aN (some (Addr.mk i 0 none))=true/\h'.cellsAt i 0 1=some [Value.int IntKind.i64 n])/\
 aN (some (Addr.mk i 0 none))=true/\
 ∃(h'_1:Hp),
 h'.store i 0 [Value.int IntKind.i64 (aG IntKind.i64 n 1)]=some h'_1/\
 ∃(b_1:Bool),
 (aN (some (Addr.mk g 0 none))=true/\h'_1.cellsAt g 0 1=some [Value.bool b_1])/\
 if b_1=true then
 aN (some (Addr.mk m 0 none))=true/\
 ∃(n:Int),
 (aN (some (Addr.mk m 0 none))=true/\h'_1.cellsAt m 0 1=some [Value.int IntKind.u32 n])/\
 C 138 [Value.pointer (some (Addr.mk b 0 none)),Value.int IntKind.u32 n] h'_1 fun(v:Value) (h':Hp) =>
 v=Value.tuple (Array.mk [])/\
 aN (some (Addr.mk f 0 none))=true/\
 ∃(n:Int),
 (aN (some (Addr.mk f 1 none))=true/\h'.cellsAt f 1 1=some [Value.int IntKind.i64 n])/\
 aN (some (Addr.mk m 0 none))=true/\
 ∃(D:Nat->Int),
 (aN (some (Addr.mk m 1 none))=true/\h'.cellsAt m 1 32=some ((aK .u8 32 D)))/\
 C 139 [Value.pointer (some (Addr.mk b 0 none)),Value.int IntKind.i64 n,Value.agg (Array.mk ((aK .u8 32 D)))] h' fun(v:Value) (h':Hp)=>v=Value.tuple (Array.mk [])/\K (Value.tuple (Array.mk [])) h'
 else
 aN (some (Addr.mk f 0 none))=true/\
 ∃(n:Int),
 (aN (some (Addr.mk f 1 none))=true/\h'_1.cellsAt f 1 1=some [Value.int IntKind.i64 n])/\
 aN (some (Addr.mk m 0 none))=true/\
 ∃(D:Nat->Int),
 (aN (some (Addr.mk m 1 none))=true/\h'_1.cellsAt m 1 32=some ((aK .u8 32 D)))/\
 C 139 [Value.pointer (some (Addr.mk b 0 none)),Value.int IntKind.i64 n,Value.agg (Array.mk ((aK .u8 32 D)))] h'_1 fun(v:Value) (h':Hp)=>v=Value.tuple (Array.mk [])/\K (Value.tuple (Array.mk [])) h'
theorem Gn{S:NP}{b i g f m ix:Nat}{L:LU}{h:Hp}(wf:Wf h)(w:WS S h b L)(hS:∀g,h.next<=g->S g)(hi:¬S i)(hg:¬S g)(hf:¬S f)(hm:¬S m)(hd:i≠g/\i≠f/\i≠m)
  (bi:Blk h i (some i) [.int .i64 (ix:Int)]) {gb:Bool} (bg:Blk h g (some g) [.bool gb]) {p wd:Int} (bf:Blk h f (some f) [.int .i64 p,.int .i64 wd]) {k:KidT} (bm:Blk h m (some m) (kidC k)) (aj:ix<=1099511600000) (hl:L.length+36<=1099511610000)
  {K:KT} (hK:∀h',WS S h' b (L++((if gb then be 4 k.page else [])++k.sum.take (inW wd)))->Keep (fun x=>S x\/x=i) h h'->Blk h' i (some i) [.int .i64 ((ix+1:Nat):Int)]->K (.tuple #[]) h'):IA b i g f m K h:=by
 obtain⟨h1,e1,b1,k1,n1,G⟩:=bi.set (o:=0) (v:=.int .i64 ((ix+1:Nat):Int)) (by simp) rfl;have V:∀{x y:Nat},x≠y->∀z,some y=some z->¬(z=x):=fun ah z O U=>by simp at O;subst O;exact ah U.symm
 have ai:=k1.blk bg (V hd.1);have ac:=k1.blk bf (V hd.2.1);have W:=k1.blk bm (V hd.2.2);have w1:=w.keepS k1 fun x E U=>hi (by rw[<-U];exact E);have G:=G wf;have aa:∀g,h1.next<=g->S g:=fun x E=>hS x (by omega);have ad:∀{hh:Hp},Blk hh m (some m) (kidC k)->hh.cellsAt m 1 32=some (aK .u8 32 (cV k.sum)):=by
  intro hh hb;rw[hb.cells (by rw[dL];omega),aH k.hs];unfold kidC;simp only[WZ,Wt,VC];rw[Uj (by rw[aJ,k.hs];omega)]
 refine⟨(ix:Int),⟨rfl,bi.one rfl⟩,rfl,h1,?_,gb,⟨rfl,ai.one rfl⟩,?_⟩
 ·rw[show aG .i64 (ix:Int) 1=_ from cN 1 ix (by omega)];exact e1
 have ae:Keep (fun x=>S x\/x=i) h h1:=k1.mono wf fun _ _ E=>.inr E;have af:∀z,some i=some z->¬S z:=fun z O U=>by simp at O;subst O;exact hi U
 by_cases hb:gb=true
 ·rw[if_pos hb];subst hb;refine⟨rfl,(k.page:Int),⟨rfl,W.one rfl⟩,?_⟩;refine(Ot w1 aa k.page k.hp (by omega)).wf fun v h2 ak al ⟨e,w2,k2⟩=>?_;refine⟨e,rfl,wd,⟨rfl,(k2.blk ac fun z O U=>by simp at O;subst O;exact hf U).one rfl⟩,rfl,cV k.sum,⟨rfl,ad (k2.blk W fun z O U=>by simp at O;subst O;exact hm U)⟩,?_⟩;rw[aH k.hs];refine(IX w2 (fun g hg=>aa g (by omega)) wd k.sum k.hs (by rw[Ug,Px];omega)).mono fun v h3 ⟨e,w3,k3⟩=>⟨e,?_⟩;have ag:=k2.trans G k3 fun _ _ hg=>hg;refine hK h3 ?_ (ae.trans wf (ag.mono G (S':=fun x=>S x\/x=i) fun _ _ E=>.inl E) fun _ _ E=>E) (ag.blk b1 af);rw[if_pos rfl,<-Ut];exact w3
 ·rw[if_neg hb];refine⟨rfl,wd,⟨rfl,ac.one rfl⟩,rfl,cV k.sum,⟨rfl,ad W⟩,?_⟩;rw[aH k.hs];refine(IX w1 aa wd k.sum k.hs (by omega)).mono fun v h3 ⟨e,w3,k3⟩=>⟨e,?_⟩;refine hK h3 ?_ (ae.trans wf (k3.mono G (S':=fun x=>S x\/x=i) fun _ _ E=>.inl E) fun _ _ E=>E) (k3.blk b1 af);rw[if_neg hb,VH];exact w3
theorem Nn{S:NP}{b:Nat}{L:LU}{h:Hp}(w:WS S h b L)(hS:∀g,h.next<=g->S g){i n g f ix:Nat}{K:List BA}{gr:ON}{gb:Bool}{p wd:Int}(E:KidEnv h i n g f ix K gr gb p wd)(hi:¬S i)(hn:¬S n)(hg:¬S g)(hf:¬S f)(hr:∀x,gr=some x->¬S x)(U:i≠n/\i≠g/\i≠f/\gr≠some i)(k:KidT)(hk:ix<=K.length)(ak:ix<=1099511600000)(hl:L.length+(kS gb wd K k ix).length<=1099511600000):
  C 137 [pt b,.agg (kidC k).toArray,pt i,pt n,pt g,pt f] h fun r h'=>r = .tuple #[]/\WS S h' b (L++kS gb wd K k ix)/\Keep (fun x=>S x\/x=i) h h'/\KidEnv h' i n g f (ix+1) K gr gb p wd:=by
 unfold kidC;rw[<-aH k.hs];refine sv Fq fun wf=>?_;intro h1 e1;rw[aH k.hs]at e1;obtain⟨b1,k1,n1,ad⟩:=aB wf e1;have w1:WS (fun x=>S x/\x≠h.next) h1 b L:=(w.less (S':=fun x=>S x/\x≠h.next) wf fun g hg hs=>⟨hs,by omega⟩).keep wf k1 fF;have ag:∀x,h1.next<=x->S x/\x≠h.next:=fun g hg=>⟨hS g (by omega),by omega⟩;have E1:=E.keep k1 id id id id fun _ _=>id;have al:=E.ctr.glt wf;obtain⟨c1,⟨s1,s3,a,l,c,d1,d2⟩,c3,c4⟩:=E1;refine⟨(ix:Int),⟨rfl,c1.one rfl⟩,?_⟩;have av:=E.flag.glt wf;have ax:=E.par.glt wf;have ay:n < h.next:=by obtain⟨_,⟨_,_,_,_,_,d,_⟩,_,_⟩:=E;exact d.glt wf
 have an:∀z,z < h.next->z≠h.next:=fun z hz=>by omega
 have ao:Keep (fun x=>S x\/x=i) h h1:=k1.mono wf fun _ _ hf=>hf.elim;have fin:∀(W:Hp) (M:LU),Wf W->h1.next<=W.next->Keep (fun x=>S x/\x≠h.next) h1 W->WS (fun x=>S x/\x≠h.next) W b (L++M)->M.length+36<=1099511610000 - L.length->L.length<=1099511600000->(M++((if gb then be 4 k.page else [])++k.sum.take (inW wd)))=kS gb wd K k ix->
   IA b i g f h.next (fun r h'=>r = .tuple #[]/\WS S h' b (L++kS gb wd K k ix)/\Keep (fun x=>S x\/x=i) h h'/\KidEnv h' i n g f (ix+1) K gr gb p wd) W:=by
  intro W M aa ah k2 w2 hM hL hB;have ac:∀{y:Nat} {cs:LV},Blk h1 y (some y) cs->(¬S y\/y=h.next)->Blk W y (some y) cs:=fun hb hy=>k2.blk hb fun z hz G=>by simp at hz;subst hz;exact hy.elim (fun q=>q G.1) (fun q=>G.2 q)
  refine Gn (S:=fun x=>S x/\x≠h.next) aa w2 (fun x O=>ag x (by omega)) (fun G=>hi G.1) (fun G=>hg G.1) (fun G=>hf G.1) (fun G=>G.2 rfl) ⟨U.2.1,U.2.2.1,an i al⟩ (ac c1 (.inl hi)) (ac c3 (.inl hg)) (ac c4 (.inl hf)) (ac b1 (.inr rfl)) ak (by rw[Ug];omega) ?_;intro h3 w3 k3 ap;rw[Ut,hB]at w3;have V:Keep (fun x=>S x\/x=i) h1 h3:=(k2.mono ad (S':=fun x=>S x\/x=i) fun _ _ O=>.inl O.1).trans ad (k3.mono aa (S':=fun x=>S x\/x=i) fun _ _ O=>O.imp (·.1) id) fun _ _ O=>O;have ae:∀z,¬S z->z≠i->∀x,some z=some x->¬(S x\/x=i):=fun z hz aq x O G=>by simp at O;subst O;exact G.elim hz aq
  refine⟨rfl,w3.mono fun _ O=>O.1,ao.trans wf V fun _ _ O=>O,ap,⟨s1,s3,a,l,c,V.blk d1 (ae n hn fun q=>U.1 q.symm),d2.keep V fun x O G=>G.elim (hr x O) fun q=>U.2.2.2 (by rw[O,q])⟩,V.blk c3 (ae g hg fun q=>U.2.1 q.symm),V.blk c4 (ae f hf fun q=>U.2.2.1 q.symm)⟩
 have ai:L.length<=1099511600000:=by omega
 by_cases G:dB (ix:Int) 0=true
 ·rw[if_pos G];have hp:0 < ix:=by rw[aS]at G;omega
  have aj:bB .i64 (ix:Int) 1=((ix - 1:Nat):Int):=by rw[bY (by omega) (by omega)];omega
  have az:=d2.len;obtain⟨s,eb⟩:∃s,K[ix - 1]? = some s:=⟨_,Uh (by omega)⟩;obtain⟨ha,af⟩:=d2.get dV eb (j:=0) (m:=1) (by omega);have ar:aA (off a) ((ix - 1:Nat):Int) 1=off a+(ix - 1) * 1+0:=by unfold aA;rw[Uo];omega
  have hB:kS gb wd K k ix=gI s++((if gb then be 4 k.page else [])++k.sum.take (inW wd)):=by
   unfold kS;rw[if_pos hp,Uz,eb,Ut]
   rfl
  have au:=hl;rw[hB,Ug,textB_len]at au;refine⟨rfl,a,l,c,⟨rfl,d1.one rfl⟩,(ix:Int),⟨rfl,c1.one rfl⟩,?_⟩;rw[aj];refine⟨⟨ha,Ui _,by omega⟩,s,⟨rfl,by rw[ar];exact af⟩,?_⟩;refine(Nf w1 ag s (by omega)).wf fun r W aa ah ⟨e,w2,k2⟩=>⟨e,?_⟩;exact fin W (gI s) aa ah k2 w2 (by rw[textB_len];omega) ai hB.symm
 ·rw[if_neg G];have hp:¬0 < ix:=fun q=>G (aS.2 (by omega));refine fin h1 [] ad (Uf _) (Keep.refl _ _) (by rw[VJ];exact w1) (by simp;omega) ai ?_;unfold kS;rw[if_neg hp,Ut]
theorem Np{S:NP}{b:Nat}{L:LU}{h:Hp}(w:WS S h b L)(hS:∀g,h.next<=g->S g){i n g f:Nat}{K:List BA}{gr:ON}{gb:Bool}{p wd:Int}(E:KidEnv h i n g f 0 K gr gb p wd)(hi:¬S i)(hn:¬S n)(V:¬S g)(hf:¬S f)(hr:∀x,gr=some x->¬S x)(ad:i≠n/\i≠g/\i≠f/\gr≠some i)
  {a:OA} {l c:Nat} {kg:ON} {ks:List KidT} (sl:SlT kidC 33 h kg a l c ks) (ae:∀x,kg=some x->¬S x/\x≠i) (hk:ks.length<=K.length+1) (ao:l<=1099511600000) (hl:L.length+10+(gB gb wd K ks).length<=1099511600000) :
  C 136 [pt b,.slice a l c,.func (.func 137) #[] #[pt i,pt n,pt g,pt f]] h fun r h'=>r = .tuple #[]/\WS S h' b (L++(cU ks.length++gB gb wd K ks))/\Keep (fun x=>S x\/x=i) h h':=by
 refine sv Fx fun wf=>?_;have af:=sl.len;refine⟨fun _=>rfl,fun _=>rfl,true,fun _=>⟨rfl,by obtain⟨_,a,hb,_⟩:=w;exact hb.one rfl⟩,?_⟩;rw[if_neg (by simp[aR,isN,aD])];have an:=eN (n:=ks.length) (by omega);rw[aF,cQ,Up (by omega)];refine(Nm w hS l (by omega) (by omega)).wf fun v h1 ag ap ⟨e,w1,k1⟩=>⟨e,?_⟩;refine⟨fun vals m hh=>∃j:Nat,[.int .i64 (j:Int)]=vals/\m=l - j/\j<=l/\WS S hh b (L++cU ks.length++gB gb wd K (ks.take j))/\Keep (fun x=>S x\/x=i) h hh/\KidEnv hh i n g f j K gr gb p wd/\Wf hh,⟨l,0,rfl,rfl,Uk _,by rw[af];simpa[gB]using w1,k1.mono wf fun _ _ hx=>.inl hx,E.keep k1 hi hn V hf hr,ag⟩,?_⟩;rintro n1 m hh ⟨j,e,rfl,hj,w,k,E,O⟩;simp at e;subst e;by_cases W:bO (j:Int) (l:Int)=true
 ·rw[if_pos W];have aq:j < l:=by rw[aC]at W;omega
  obtain⟨G,eb⟩:∃G,ks[j]? = some G:=⟨_,Uh (by omega)⟩;have ah:=sl.keep k fun x hx W=>(ae x hx).elim fun q1 q2=>W.elim q1 q2;obtain⟨ha,U⟩:=ah.get dL eb (j:=0) (m:=33) (by omega);have ai:aA (off a) (j:Int) 33=off a+j * 33+0:=by unfold aA;rw[Uo];omega
  have ar:=k.next;have ek:[Value.int IntKind.u32 (G.page:Int)]++aK .u8 32 (cV G.sum)=kidC G:=by rw[aH G.hs];rfl
  have aa:((kidC G).drop 0).take 33=kidC G:=by rw[VC,Uj (by rw[dL];omega)]
  refine⟨⟨ha,Ui _,by omega⟩,(G.page:Int),cV G.sum,⟨rfl,by rw[ai,ek];rw[aa]at U;exact U⟩,?_⟩;intro h2 e2;obtain⟨b2,k2,n2,aj⟩:=aB O e2;obtain⟨h3,e3,b3,k3,_,n3,au⟩:=bP aj (vs:=kidC G) b2 k2 O (Uf _) (by rw[dL];rfl) (jT G);have hle:=rW (g:=gb) (w:=wd) (K:=K) ks (j+1);have heq:=oS (g:=gb) (w:=wd) (K:=K) eb;have ac:=hle;rw[heq,Ug]at ac;refine⟨rfl,h3,by rw[ek];exact e3,(G.page:Int),cV G.sum,⟨rfl,by rw[b3.cells (by rw[dL];omega),aa,ek]⟩,?_⟩;rw[ek];refine(Nn (w.keep O k3 fF) (fun g V=>hS g (by omega)) (E.keep k3 id id id id fun _ _=>id) hi hn V hf hr ad G (by omega) (by omega) (by rw[Ug,Ug];omega)).wf fun r h4 ak av ⟨e,w4,k4,E4⟩=>⟨e,l - (j+1),by simp only[aI];omega,j+1,?_,rfl,by omega,?_,?_,E4,ak⟩
  ·rw[show aG .i64 (j:Int) 1=_ from cN 1 j (by omega)]
  ·rw[heq,<-Ut];exact w4
  ·exact k.trans wf ((k3.mono O (S':=fun x=>S x\/x=i) fun _ _ hf=>hf.elim).trans O k4 fun _ _ V=>V) fun _ _ V=>V
 ·rw[if_neg W];have al:j=l:=by
   by_cases hq:j=l
   ·exact hq
   ·exact absurd (aC.2 (by omega)) W
  subst al;refine⟨rfl,?_,k⟩;rw[Uj (by omega),Ut]at w;exact w
theorem uC(a1 a2 a3:OA)(l1 c1 l2 c2 l3 c3:Nat)(h:Hp):
  C 86 [.agg #[.slice a1 l1 c1,.slice a2 l2 c2,.slice a3 l3 c3]] h fun r h'=>r = .bool (decide (l2=0/\l3=0))/\Kept h h':=by
 refine sv JK fun wf=>?_;intro V e1;obtain⟨b1,G,n1,O⟩:=aB wf e1;refine⟨rfl,a2,l2,c2,⟨rfl,b1.one rfl⟩,fun _=>rfl,a3,l3,c3,fun _=>⟨rfl,b1.one rfl⟩,?_,G⟩;congr 1;by_cases E:l2=0
 ·by_cases U:l3=0 <;> simp[E,U,bX,aE,aR]
 ·simp[E,bX,aE,aR]
end Go.Proofs.YtmapagggnigfpaaGreat.pk
namespace Go.Cn.Pk
structure NodeT where
 ps:List PairT
 K:List BA
 ks:List KidT
def NodeT.leaf(N:NodeT):Bool:=N.K.isEmpty&&N.ks.isEmpty
def cJ(g:Bool)(w:Int)(N:NodeT):LU:=if N.leaf then BB N.ps else pG g w N.K N.ks
structure NodeAt(h:Hp)(n0:Nat)(v:Value)(N:NodeT):Prop where
 ex:∃a1 l1 c1 a2 l2 c2 a3 l3 c3,v = .agg #[.slice a1 l1 c1,.slice a2 l2 c2,.slice a3 l3 c3]/\
  (∃g:ON,(∀x,g=some x->x < n0)/\SlT pairC 2 h g a1 l1 c1 N.ps)/\
  (∃g:ON,(∀x,g=some x->x < n0)/\SlT Go.Proofs.YtmapagggnigfpaaGreat.pk.strc 1 h g a2 l2 c2 N.K)/\
  (∃g:ON,(∀x,g=some x->x < n0)/\SlT kidC 33 h g a3 l3 c3 N.ks)
theorem cD{α:Type}{enc:α->LV}{w n0:Nat}{S:NP}{h h':Hp}{a:OA}{l c:Nat}{L:List α}(k:Keep S h h')(G:∀g,g < n0->¬S g)
  (s:∃g:ON,(∀x,g=some x->x < n0)/\SlT enc w h g a l c L):∃g:ON,(∀x,g=some x->x < n0)/\SlT enc w h' g a l c L:=by
 obtain⟨g,E,O⟩:=s;exact⟨g,E,O.keep k fun x U=>G x (E x U)⟩
theorem NodeAt.keep{S:NP}{h h':Hp}{n0:Nat}{v:Value}{N:NodeT}(x:NodeAt h n0 v N)(k:Keep S h h')(E:∀g,g < n0->¬S g):NodeAt h' n0 v N:=by
 obtain⟨a1,l1,c1,a2,l2,c2,a3,l3,c3,e,G,O,U⟩:=x;exact⟨a1,l1,c1,a2,l2,c2,a3,l3,c3,e,cD k E G,cD k E O,cD k E U⟩
theorem fG{N:NodeT}{l2 l3:Nat}(E:N.K.length=l2)(G:N.ks.length=l3):decide (l2=0/\l3=0)=N.leaf:=by
 subst E G;unfold NodeT.leaf
 cases O:N.K <;> cases hs:N.ks <;> simp
end Go.Cn.Pk
namespace Go.Proofs.YtmapagggnigfpaaGreat.pk
open Cn Cn.Pk vc
theorem Qf{h:Hp}{n:Nat}{nv:Value}{N:NodeT}(x:NodeAt h n nv N)(a5:n<=h.next)(p w:Int)(gb:Bool)(hk:N.leaf=false->N.ks.length<=N.K.length+1)(hl:(cJ gb w N).length<=1099511500000)(a6:N.ps.length<=1099511500000)(a7:N.ks.length<=1099511500000):
  C 108 [.agg #[.int .i64 p,.int .i64 w],nv,.bool gb] h fun r h'=>r = .string (str (cJ gb w N))/\Kept h h':=by
 obtain⟨a1,l1,c1,a2,l2,c2,a3,l3,c3,rfl,q1,q2,q3⟩:=x;refine sv OQ fun wf=>?_;intro h1 e1 h2 e2 E e3;obtain⟨b1,k1,n1,al⟩:=aB wf e1;obtain⟨b2,k2,n2,an⟩:=aB al e2;obtain⟨b3,k3,n3,a8⟩:=aB an e3;refine(UB E).wf fun v V ac a9 ⟨e,w4,k4⟩=>⟨_,e,?_⟩;have ao:Kept h V:=((k1.trans wf k2 fF).trans wf k3 fF).trans wf k4 fF;have ad:Blk V h1.next (some h1.next) _:=Kept.blk k4 (Kept.blk k3 b2);have ap:Blk V h.next (some h.next) _:=Kept.blk k4 (Kept.blk k3 (Kept.blk k2 b1));have aq:Blk V h2.next (some h2.next) _:=Kept.blk k4 b3;refine⟨a1,l1,c1,a2,l2,c2,a3,l3,c3,⟨rfl,by rw[ad.cells (by simp)];rfl⟩,?_⟩;have ar:N.K.length=l2:=by obtain⟨_,_,q⟩:=q2;exact q.len
 have au:N.ks.length=l3:=by obtain⟨_,_,q⟩:=q3;exact q.len
 have ba:N.ps.length=l1:=by obtain⟨_,_,q⟩:=q1;exact q.len
 refine(uC a1 a2 a3 l1 c1 l2 c2 l3 c3 V).wf fun v h5 W bb ⟨e,k5⟩=>⟨_,e,?_⟩;rw[fG ar au];have w5:=w4.keep (n1:=V.next) ac (k5.mono ac (S':=(V.next<=·)) fun _ _ hf=>hf.elim) (Uf _);have ae:Kept h h5:=ao.trans wf k5 fF;have af:=Kept.blk k5 ad;have av:=Kept.blk k5 ap;have ax:=Kept.blk k5 aq;have ag:∀{y:Nat},y < E.next->∀z,some y=some z->¬(E.next<=z):=fun hy z hz hc=>by simp at hz;omega
 have ff:∀{hh:Hp},Keep (E.next<=·) h5 hh->Kept h hh:=fun k=>(ae.trans wf (S':=fun g=>E.next<=g) k fun g hg hc=>by omega);by_cases hL:N.leaf=true
 ·rw[if_pos hL];have O:cJ gb w N=BB N.ps:=by unfold cJ;rw[if_pos hL]
  rw[O]at hl;rw[O];have U:=hl;unfold BB at U;rw[Ug,Ug,cO]at U;refine(Nj w5 1 (by omega) (by simp)).wf fun v h6 G ay ⟨e,w6,k6⟩=>⟨e,?_⟩;refine⟨rfl,a1,l1,c1,⟨rfl,(k6.blk af (ag (by omega))).one rfl⟩,?_⟩;obtain⟨g1,r1,s1⟩:=cD (ae.trans wf (S':=fun g=>E.next<=g) k6 fun g hg hc=>by omega) (fF) q1;refine(Kd w6.ws (fun g hg=>by omega) s1 (fun x hx hc=>by have:=r1 x hx;omega) (by omega) (by rw[VH,cO];omega)).wf fun v h7 ah bf ⟨e,w7,k7⟩=>⟨e,?_⟩;refine(IQ w7.wat).mono fun v h8 ⟨e,e8⟩=>⟨_,e,?_,?_⟩
  ·rfl
  ·subst e8;exact ff (k6.trans W k7 fF)
 ·rw[if_neg hL];have O:cJ gb w N=pG gb w N.K N.ks:=by unfold cJ;rw[if_neg hL]
  rw[O]at hl;rw[O];have U:=hl;unfold pG at U;rw[Ug,Ug,cO]at U;refine(Nj w5 2 (by omega) (by simp)).wf fun v h6 G ay ⟨e,w6,k6⟩=>⟨e,?_⟩;intro h7 e7;obtain⟨b7,k7,n7,ah⟩:=aB G e7;obtain⟨h8,e8,b8,k8,_,n8,bg⟩:=bP ah (vs:=[.int .i64 ((0:Nat):Int)]) b7 k7 G (Uf _) rfl rfl;have aa:∀{y:Nat} {cs:LV},Blk h5 y (some y) cs->y < E.next->Blk h8 y (some y) cs:=fun hb hy=>Kept.blk k8 (k6.blk hb (ag hy));have ai:=aa af (by omega);have az:=aa av (by omega);have a0:=aa ax (by omega);refine⟨rfl,h8,e8,rfl,a3,l3,c3,⟨rfl,ai.one rfl⟩,?_⟩;have aj:Keep (E.next<=·) h5 h8:=k6.trans W (S':=fun _=>False) k8 fun _ _ h=>h.elim;have ak:Kept h h8:=ff aj;obtain⟨g3,r3,s3⟩:=cD ak (fF) q3;obtain⟨g2,r2,s2⟩:=cD ak (fF) q2;have bh:E.next < h6.next:=by have:=w6.lt G;omega
  have w8:WS (fun g=>E.next<=g/\g≠h6.next) h8 E.next (be 1 2):=(w6.ws.less (S':=fun g=>E.next<=g/\g≠h6.next) G fun g hg hs=>⟨hs,by omega⟩).keep G k8 fF;refine(Np (gr:=g2) w8 (fun g hg=>⟨by omega,by omega⟩) (K:=N.K) (gb:=gb) (p:=p) (wd:=w) ⟨b8,⟨_,_,a2,l2,c2,ai,s2⟩,a0,az⟩ (fun h=>h.2 rfl) (fun h=>by have:=h.1;omega) (fun h=>by have:=h.1;omega) (fun h=>by have:=h.1;omega) (fun x hx h=>by have:=r2 x hx;have:=h.1;omega) ⟨by omega,by omega,by omega,fun h=>by have:=r2 _ h;omega⟩ s3 (fun x hx=>by have:=r3 x hx;exact⟨fun h=>by have:=h.1;omega,by omega⟩) (hk (by simpa using hL)) (by omega) (by rw[cO];omega)).wf fun v h9 bi bj ⟨e,w9,k9⟩=>⟨e,?_⟩;refine(IQ (w9.mono (S':=(E.next<=·)) fun _ h=>h.1).wat).mono fun v bk ⟨e,a4⟩=>⟨_,e,?_,?_⟩
  ·rfl
  ·subst a4;exact ff (aj.trans W k9 fun g hg h=>h.elim (·.1) fun q=>by omega)
end Go.Proofs.YtmapagggnigfpaaGreat.pk
namespace Go.Cn.Pk
def Cy(m:Int)(L:List BA)(i:Nat):Prop :=
 ∀s,L[i]? = some s->1<=(s.size:Int)/\(s.size:Int)<=m/\∀t,0 < i->L[i - 1]? = some t->Go.Cn.strLt t s=true
def AF(m:Int)(L:List BA):Prop:=∀i,Cy m L i
theorem yD{m:Int}{L:List BA}(h:∀j,j < L.length->Cy m L j):AF m L:=by
 intro i s hs;have:i < L.length:=by
  rcases Nat.lt_or_ge i L.length with h | h
  ·exact h
  ·rw[VI h]at hs;simp at hs
 exact h i this s hs
def iX(n:Nat):Nat:=(cU n).length
theorem Cg{n:Nat}(h:n < 128):iX n=1:=by unfold iX;rw[mG h];rfl
theorem IK{n:Nat}(h:¬n < 128):iX n=iX (n / 128)+1:=by unfold iX;rw[mH h];rfl
end Go.Cn.Pk
namespace Go.Proofs.YtmapagggnigfpaaGreat.pk
open Cn Cn.Pk vc
abbrev fr(p w:Int):Value:=.agg #[.int .i64 p,.int .i64 w]
theorem xM(p w:Int)(h:Hp):C 172 [fr p w] h fun v h'=>v = .int .i64 (eP .i64 p 16)/\h'=h:=by
 refine uP ?_;refine sv JS fun wf=>?_;intro O e1;obtain⟨b1,E,n1,G⟩:=aB wf e1;exact⟨rfl,p,⟨rfl,b1.one rfl⟩,by simp[bW],rfl,E⟩
theorem IU(p w:Int)(h:Hp):C 149 [fr p w] h fun v h'=>v = .int .i64 (eP .i64 p 8)/\h'=h:=by
 refine uP ?_;refine sv JR fun wf=>?_;intro O e1;obtain⟨b1,E,n1,G⟩:=aB wf e1;exact⟨rfl,p,⟨rfl,b1.one rfl⟩,by simp[bW],rfl,E⟩
theorem Nl(k v:BA)(h:Hp):C 151 [.agg #[.string k,.string v]] h fun r h'=>r = .string k/\h'=h:=by
 refine uP ?_;refine sv LM fun wf=>?_;intro O e1;obtain⟨b1,E,n1,G⟩:=aB wf e1;exact⟨rfl,k,⟨rfl,b1.one rfl⟩,rfl,E⟩
theorem Ni(k:BA)(h:Hp):C 157 [.string k] h fun r h'=>r = .string k/\h'=h:=by
 refine sv Kx fun wf=>?_;exact⟨rfl,rfl⟩
theorem SD(k v:BA){f:Nat}{p w:Int}{h:Hp}{g:ON}(O:Blk h f g [.int .i64 p,.int .i64 w]):C 148 [.agg #[.string k,.string v],pt f] h fun r h'=>r = .bool (decide ((v.size:Int) > eP .i64 p 8))/\h'=h:=by
 refine uP ?_;refine sv LK fun wf=>?_;intro U e1;obtain⟨b1,G,n1,V⟩:=aB wf e1;have E:=Kept.blk G O;refine⟨rfl,v,⟨rfl,b1.one rfl⟩,p,w,⟨rfl,by rw[E.cells (by simp)];rfl⟩,?_⟩;refine(IU p w U).mono fun r W ⟨e,e2⟩=>?_;subst e2;exact⟨_,e,⟨rfl,b1.one rfl⟩,rfl,G⟩
theorem nV{m:Int}{L:List BA}{i:Nat}{s t:BA}(hs:L[i]? = some s)(U:0 < i->L[i - 1]? = some t):
  aR (aR (bO (aE (aU s)) 1) true (dB (aE (aU s)) m)) true (aR (dB (i:Int) 0) (aD (Go.Cn.strLt t s)) false)=true↔¬Cy m L i:=by
 have W:aE (aU s)=(s.size:Int):=rfl;rw[W,cG,cG,bN,aC,aS,aS,gR]
 constructor
 ·rintro h O;obtain⟨q1,q2,q3⟩:=O s hs;rcases h with (h | h) | ⟨h1,V⟩
  ·omega
  ·omega
  ·rw[q3 t (by omega) (U (by omega))]at V;simp at V
 ·intro h;apply Classical.byContradiction;intro hn;apply h;intro s' E;rw[hs]at E;injection E with E
  subst E;refine⟨by omega,by omega,fun t' h0 G=>?_⟩;rw[U h0]at G;injection G with G
  subst G;by_cases hb:Go.Cn.strLt t s=true
  ·exact hb
  ·exact absurd (Or.inr ⟨by omega,by simpa using hb⟩) hn
theorem Pl{h:Hp}(p w:Int){a:OA}{l c:Nat}{gr:ON}{ps:List PairT}(sl:SlT pairC 2 h gr a l c ps)(an:l<=1099511600000):
  C 150 [fr p w,.slice a l c,.func (.func 151) #[] #[]] h fun r h'=>(∃b:Bool,r = .bool b/\(b=true↔AF (eP .i64 p 16) (ps.map (·.1))))/\Kept h h':=by
 refine sv Il fun wf=>?_;intro h1 e1;obtain⟨b1,k1,n1,O⟩:=aB wf e1;have ag:=sl.len;refine⟨fun vals m hh=>∃i:Nat,[.int .i64 (i:Int)]=vals/\m=l - i/\i<=l/\(∀j,j < i->Cy (eP .i64 p 16) (ps.map (·.1)) j)/\Kept h1 hh/\Wf hh,⟨l,0,rfl,rfl,Uk _,fun j hj=>by omega,Keep.refl _ _,O⟩,?_⟩;rintro n2 m hh ⟨i,e,rfl,hi,U,k,V⟩;simp at e;subst e;have k0:Kept h hh:=k1.trans wf k fF;by_cases hc:bO (i:Int) (aE l)=true
 ·rw[if_pos hc];have W:i < l:=by rw[aC,aF]at hc;omega
  obtain⟨q,eb⟩:∃q,ps[i]? = some q:=⟨_,Uh (by omega)⟩;obtain⟨s1,s2⟩:=q;have ah:=sl.keep k0 fF;obtain⟨ha,G⟩:=ah.get gZ eb (j:=0) (m:=2) (by omega);have aa:∀j:Nat,aA (off a) (j:Int) 2=off a+j * 2+0:=fun j=>by unfold aA;rw[Uo];omega
  refine⟨⟨ha,Ui _,by omega⟩,s1,s2,⟨rfl,by rw[aa];exact G⟩,?_⟩;intro h2 e2;obtain⟨b2,k2,n2,ai⟩:=aB V e2;obtain⟨h3,e3,b3,k3,_,n3,aj⟩:=bP ai (vs:=[.string s1,.string s2]) b2 k2 V (Uf _) rfl rfl;refine⟨rfl,h3,e3,s1,s2,⟨rfl,by rw[b3.cells (by simp)];rfl⟩,?_⟩;refine(Nl s1 s2 h3).mono fun r h4 ⟨e,e4⟩=>?_;subst e4;have ac:Kept h h4:=k0.trans wf k3 fF;have ad:Kept h1 h4:=k.trans O k3 fF;have bf:=Kept.blk ad b1;have ak:=sl.keep ac fF;obtain⟨t1,t2,ht⟩:∃t1 t2,0 < i->ps[i - 1]? = some (t1,t2):=by
   by_cases h0:0 < i
   ·exact⟨_,_,fun _=>Uh (l:=ps) (i:=i - 1) (by omega)⟩
   ·exact⟨.empty,.empty,fun h=>absurd h h0⟩
  have E:0 < i->bB .i64 (i:Int) 1=((i - 1:Nat):Int):=fun h0=>by rw[bY (by omega) (by omega)];omega
  have ae:∀{b:Bool},dJ (dB (i:Int) 0) b=true->0 < i:=fun h=>by rw[zZ,aS]at h;omega
  refine⟨s1,e,p,w,fun _=>⟨rfl,by rw[bf.cells (by simp)];rfl⟩,_,fun _=>(xM p w h4),?_,t1,t2,?_,t1,fun _=>Nl t1 t2 h4,?_⟩
  ·intro hq;have h0:=ae hq;rw[E h0];exact⟨ha,Ui _,by omega⟩
  ·intro hq;have h0:=ae hq;rw[E h0,aa];exact⟨rfl,(ak.get gZ (ht h0) (j:=0) (m:=2) (by omega)).2⟩
  have em:(ps.map (·.1))[i]? = some s1:=by rw[VB,eb];rfl
  have et:0 < i->(ps.map (·.1))[i - 1]? = some t1:=fun h0=>by rw[VB,ht h0];rfl
  by_cases hf:aR (aR (bO (aE (aU s1)) 1) true (dB (aE (aU s1)) (eP .i64 p 16))) true (aR (dB (i:Int) 0) (aD (Go.Cn.strLt t1 s1)) false)=true
  ·rw[if_pos hf];exact⟨⟨false,rfl,by simp;exact fun hr=>(nV em et).1 hf (hr i)⟩,ac⟩
  ·rw[if_neg hf];have af:Cy (eP .i64 p 16) (ps.map (·.1)) i:=Classical.byContradiction fun hn=>hf ((nV em et).2 hn);refine⟨l - (i+1),by simp only[aI];omega,i+1,?_,rfl,by omega,fun j hj=>?_,ad,aj⟩
   ·rw[show aG .i64 (i:Int) 1=_ from cN 1 i (by omega)]
   ·by_cases al:j=i
    ·subst al;exact af
    ·exact U j (by omega)
 ·rw[if_neg hc];have W:i=l:=by
   by_cases hq:i=l
   ·exact hq
   ·exact absurd (aC.2 (by rw[aF];omega)) hc
  subst W;exact⟨⟨true,rfl,by simp;exact yD fun j hj=>U j (by simpa[ag]using hj)⟩,k0⟩
theorem Pj{h:Hp}(p w:Int){a:OA}{l c:Nat}{gr:ON}{ps:List BA}(sl:SlT strc 1 h gr a l c ps)(ah:l<=1099511600000):
  C 156 [fr p w,.slice a l c,.func (.func 157) #[] #[]] h fun r h'=>(∃b:Bool,r = .bool b/\(b=true↔AF (eP .i64 p 16) ps))/\Kept h h':=by
 refine sv Ik fun wf=>?_;intro h1 e1;obtain⟨b1,k1,n1,ae⟩:=aB wf e1;have ai:=sl.len;refine⟨fun vals m O=>∃i:Nat,[.int .i64 (i:Int)]=vals/\m=l - i/\i<=l/\(∀j,j < i->Cy (eP .i64 p 16) ps j)/\Kept h1 O/\Wf O,⟨l,0,rfl,rfl,Uk _,fun j hj=>by omega,Keep.refl _ _,ae⟩,?_⟩;rintro n2 m O ⟨i,e,rfl,hi,U,k,af⟩;simp at e;subst e;have k0:Kept h O:=k1.trans wf k fF;by_cases hc:bO (i:Int) (aE l)=true
 ·rw[if_pos hc];have V:i < l:=by rw[aC,aF]at hc;omega
  obtain⟨s1,eb⟩:∃q,ps[i]? = some q:=⟨_,Uh (by omega)⟩;have W:=sl.keep k0 fF;obtain⟨ha,G⟩:=W.get dV eb (j:=0) (m:=1) (by omega);have aa:∀j:Nat,aA (off a) (j:Int) 1=off a+j * 1+0:=fun j=>by unfold aA;rw[Uo];omega
  refine⟨⟨ha,Ui _,by omega⟩,s1,⟨rfl,by rw[aa];exact G⟩,?_⟩;refine(Ni s1 O).mono fun r h4 ⟨e,e4⟩=>?_;subst e4;have bf:=Kept.blk k b1;obtain⟨t1,ht⟩:∃t1,0 < i->ps[i - 1]? = some t1:=by
   by_cases h0:0 < i
   ·exact⟨_,fun _=>Uh (l:=ps) (i:=i - 1) (by omega)⟩
   ·exact⟨.empty,fun h=>absurd h h0⟩
  have E:0 < i->bB .i64 (i:Int) 1=((i - 1:Nat):Int):=fun h0=>by rw[bY (by omega) (by omega)];omega
  have ac:∀{b:Bool},dJ (dB (i:Int) 0) b=true->0 < i:=fun h=>by rw[zZ,aS]at h;omega
  refine⟨s1,e,p,w,fun _=>⟨rfl,by rw[bf.cells (by simp)];rfl⟩,_,fun _=>(xM p w h4),?_,t1,?_,t1,fun _=>Ni t1 h4,?_⟩
  ·intro hq;have h0:=ac hq;rw[E h0];exact⟨ha,Ui _,by omega⟩
  ·intro hq;have h0:=ac hq;rw[E h0,aa];exact⟨rfl,(W.get dV (ht h0) (j:=0) (m:=1) (by omega)).2⟩
  by_cases hf:aR (aR (bO (aE (aU s1)) 1) true (dB (aE (aU s1)) (eP .i64 p 16))) true (aR (dB (i:Int) 0) (aD (Go.Cn.strLt t1 s1)) false)=true
  ·rw[if_pos hf];exact⟨⟨false,rfl,by simp;exact fun hr=>(nV eb ht).1 hf (hr i)⟩,k0⟩
  ·rw[if_neg hf];have ad:Cy (eP .i64 p 16) ps i:=Classical.byContradiction fun hn=>hf ((nV eb ht).2 hn);refine⟨l - (i+1),by simp only[aI];omega,i+1,?_,rfl,by omega,fun j hj=>?_,k,af⟩
   ·rw[show aG .i64 (i:Int) 1=_ from cN 1 i (by omega)]
   ·by_cases ag:j=i
    ·subst ag;exact ad
    ·exact U j (by omega)
 ·rw[if_neg hc];have V:i=l:=by
   by_cases hq:i=l
   ·exact hq
   ·exact absurd (aC.2 (by rw[aF];omega)) hc
  subst V;exact⟨⟨true,rfl,by simp;exact yD fun j hj=>U j (by omega)⟩,k0⟩
theorem TM{h:Hp}{p w:Int}{f:Nat}{g:ON}(bf:Blk h f g [.int .i64 p,.int .i64 w]){a:OA}{l c:Nat}{gr:ON}{ps:List PairT}(sl:SlT pairC 2 h gr a l c ps)(ac:l<=1099511600000):
  C 152 [.slice a l c,.func (.func 148) #[] #[pt f]] h fun r h'=>(∃b:Bool,r = .bool b/\(b=true↔∃q∈ps,(q.2.size:Int) > eP .i64 p 8))/\h'=h:=by
 refine sv Qz fun wf=>?_;have key:C 173 [.slice a l c,.func (.func 148) #[] #[pt f]] h fun r h'=>(∃n:Int,r = .int .i64 n/\(n>=0↔∃q∈ps,(q.2.size:Int) > eP .i64 p 8))/\h'=h:=by
  refine sv Qw fun wf=>?_;have hL:=sl.len;refine⟨fun vals m hh=>∃i:Nat,[.int .i64 (i:Int)]=vals/\m=l - i/\i<=l/\hh=h/\(∀q∈ps.take i,¬(q.2.size:Int) > eP .i64 p 8),⟨l,0,rfl,rfl,Uk _,rfl,by simp⟩,?_⟩;rintro n m hh ⟨i,e,rfl,hi,rfl,V⟩;simp at e;subst e;by_cases U:bO (i:Int) (aE l)=true
  ·rw[if_pos U];have O:i < l:=by rw[aC,aF]at U;omega
   obtain⟨q,W⟩:∃q,ps[i]? = some q:=⟨_,Uh (by omega)⟩;obtain⟨s1,s2⟩:=q;obtain⟨ha,E⟩:=sl.get gZ W (j:=0) (m:=2) (by omega);have aa:aA (off a) (i:Int) 2=off a+i * 2+0:=by unfold aA;rw[Uo];omega
   refine⟨⟨ha,Ui _,by omega⟩,s1,s2,⟨rfl,by rw[aa];exact E⟩,?_⟩;refine(SD s1 s2 bf).mono fun r h1 ⟨e,e1⟩=>⟨_,e,?_⟩;subst e1;by_cases G:(s2.size:Int) > eP .i64 p 8
   ·rw[if_pos (by simpa using G)];exact⟨⟨_,rfl,⟨fun _=>⟨(s1,s2),Uy W,G⟩,fun _=>by omega⟩⟩,rfl⟩
   ·rw[if_neg (by simpa using G)];refine⟨l - (i+1),by simp only[aI];omega,i+1,?_,rfl,by omega,rfl,?_⟩
    ·rw[show aG .i64 (i:Int) 1=_ from cN 1 i (by omega)]
    ·intro q hm;rw[VG,W]at hm;rcases VF.1 hm with hm | hm
     ·exact V q hm
     ·simp at hm;subst hm;exact G
  ·rw[if_neg U];have O:i=l:=by
    by_cases G:i=l
    ·exact G
    ·exact absurd (aC.2 (by rw[aF];omega)) U
   subst O;rw[Uj (by omega)]at V;exact⟨⟨-1,rfl,⟨fun h=>by omega,fun⟨q,h1,h2⟩=>absurd h2 (V q h1)⟩⟩,rfl⟩
 refine key.mono fun r h1 ⟨⟨n,e,hn⟩,e1⟩=>⟨n,e,⟨_,rfl,?_⟩,e1⟩;rw[cK];exact hn
end Go.Proofs.YtmapagggnigfpaaGreat.pk
namespace Go.Cn.Pk
def fW(w:Int):Prop:=1<=w/\w<=32
instance (w:Int):Decidable (fW w):=by unfold fW;infer_instance
def dX(n:Nat)(d:LU):LU:=d.take n++List.replicate (32 - n) 0
theorem iK{n:Nat}{d:LU}(E:d.length=32)(G:n<=32):(dX n d).length=32:=by
 unfold dX;rw[Ug,Uq,WQ];omega
def bH:LU:=List.replicate 32 0
theorem bI:bH.length=32:=rfl
theorem GF{n:Nat}{d:LU}(E:d.length=32)(G:n<=32):splice (bc bH) 0 (bc (d.take n))=bc (dX n d):=by
 have hl:(bc (d.take n)).length=n:=by rw[aJ,Uq];omega
 unfold splice dX;rw[Vn,VH,hl,fM,Nat.zero_add];congr 1;rw[eU,eU,<-List.map_drop];congr 1;unfold bH;rw[List.drop_replicate]
theorem jE:∀(a b:LU),a.length=b.length->(eS (bc a) (bc b)=true↔a=b)
 | [],[],_=>by simp[bc,eS]
 | x::a,y::b,h=>by
  have G:=jE a b (by simpa using h);rw[eU,eU]at G;rw[eU,eU,VO,VO];unfold eS;rw[Uw,aV,G]
  constructor
  ·rintro⟨E,rfl⟩;congr 1;exact Wn.1 (by exact_mod_cast E)
  ·intro h;injection h with E O
   exact⟨by rw[E],O⟩
 | [],_::_,h=>by simp at h
 | _::_,[],h=>by simp at h
end Go.Cn.Pk
namespace Go.Proofs.YtmapagggnigfpaaGreat.pk
open Cn Cn.Pk vc
theorem QW(w:Int)(h:Hp):C 109 [.int .i64 w] h fun v h'=>v = .bool (decide (fW w))/\h'=h:=by
 refine sv Kw fun wf=>?_;refine⟨?_,rfl⟩;congr 1;rw[Va,bN,cK,eV,decide_eq_true_eq];unfold fW
 omega
theorem Ls:size? Tryz.prog 5 = some 1:=by kernel_rfl
theorem Pf{h:Hp}{b g b2:Nat}{g2:ON}{CS:LV}{d:LU}(hb:Blk h b (some g) CS)(E:Blk h b2 g2 (bc d)){n c1 c2:Nat}(W:0 < n)(G:n<=d.length)(O:n<=CS.length):
  ∃h',qO Tryz.prog 144 (.slice (some ⟨b,0,none⟩) n c1) (.slice (some ⟨b2,0,none⟩) n c2) h=some (.int .i64 n,h')/\Blk h' b (some g) (splice CS 0 (bc (d.take n)))/\Keep (· = g) h h'/\h'.next=h.next/\(Wf h->Wf h'):=by
 have hlen:(bc (d.take n)).length=n:=by rw[aJ,Uq];omega
 obtain⟨h',U,V⟩:=hb.store (o:=0) (vs:=bc (d.take n)) (by omega) (aZ _);refine⟨h',?_,V⟩;unfold qO;rw[Cu.under]
 dsimp only
 rw[Ls];simp only[dC,if_neg (show ¬n=0 by omega),Ve];rw[E.cells (by rw[aJ];omega)];simp only[Uv,Nat.min_self,VC];have et:(bc d).take n=bc (d.take n):=by rw[eU,eU,List.map_take]
 rw[if_neg (show ¬n=0 by omega),et,Uj (by omega),U]
 rfl
theorem dU:fH=bc bH:=rfl
theorem cH{h:Hp}{b:Nat}{g:ON}{d:LU}(hb:Blk h b g (bc d))(E:d.length=32):h.cellsAt b 0 32=some (aK .u8 32 (cV d)):=by
 rw[hb.cells (by rw[aJ];omega),VC,Uj (by rw[aJ];omega),aH E]
theorem TR(w:Int)(d:LU)(U:d.length=32)(h:Hp):
  C 140 [.int .i64 w,.agg (bc d).toArray] h fun v h'=>v = .tuple #[.agg (bc (if fW w then dX w.toNat d else bH)).toArray,.int .i64 (if fW w then 0 else 2)]/\Kept h h':=by
 rw[<-aH U];refine sv OS fun wf=>?_;intro h1 e1 h2 e2;rw[aH U]at e1;rw[dU]at e2;obtain⟨b1,k1,n1,V⟩:=aB wf e1;obtain⟨b2,k2,n2,W⟩:=aB V e2;refine(QW w h2).mono fun v h3 ⟨e,e3⟩=>⟨_,e,?_⟩;subst e3;have G:=k1.trans wf k2 fF;by_cases hw:fW w
 ·rw[if_neg (by simp[aD,hw]),if_pos hw,if_pos hw];intro h4 e4;rw[dU]at e4;obtain⟨b4,k4,n4,ae⟩:=aB W e4;obtain⟨n,rfl⟩:∃n:Nat,w=(n:Int):=⟨w.toNat,by unfold fW at hw;omega⟩;have hn:1<=n/\n<=32:=by unfold fW at hw;omega
  have aa:=Kept.blk k4 (Kept.blk k2 b1);obtain⟨h5,e5,b5,k5,n5,af⟩:=Pf (c1:=32) (c2:=32) b4 aa (n:=n) (by omega) (by omega) (by rw[aJ];simp[bH];omega);rw[GF U hn.2]at b5;have E:=iK U hn.2;have ac:=k5.blk (Kept.blk k4 b2) fun x hx hc=>by simp at hx;omega
  obtain⟨h6,e6,O,k6,n6,ad⟩:=ac.store (o:=0) (vs:=bc (dX n d)) (by rw[aJ,aJ,E];simp[bH]) (aZ _);have es:splice (bc bH) 0 (bc (dX n d))=bc (dX n d):=by simp[splice,aJ,E,bH]
  rw[es]at O;refine⟨⟨by simp only[jO,aF];omega,rfl⟩,⟨by simp only[jO,aF];omega,rfl⟩,(n:Int),h5,?_,cV (dX n d),⟨rfl,cH b5 E⟩,rfl,h6,by rw[aH E];exact e6,cV (dX n d),⟨rfl,cH O E⟩,?_,?_⟩
  ·exact e5
  ·rw[aH E];rfl
  ·exact((G.trans wf k4 fF).trans wf (S:=fun _=>False) k5 fun g hg hc=>by omega).trans wf k6 fun g hg hc=>by omega
 ·rw[if_pos (by simp[aD,hw]),if_neg hw,if_neg hw];obtain⟨h6,e6,O,k6,n6,ad⟩:=b2.store (o:=0) (vs:=bc bH) (by simp) (aZ _);have es:splice (bc bH) 0 (bc bH)=bc bH:=by simp[splice]
  rw[es]at O;refine⟨rfl,h6,by rw[dU];exact e6,cV bH,⟨rfl,cH O bI⟩,?_,?_⟩
  ·rw[aH bI]
  ·exact G.trans wf k6 fun g hg hc=>by omega
theorem TP(w:Int)(d:LU)(G:d.length=32)(h:Hp):
  C 154 [.int .i64 w,.agg (bc d).toArray] h fun v h'=>v = .bool (decide (fW w/\dX w.toNat d=d))/\h'=h:=by
 refine uP ?_;rw[<-aH G];refine sv OZ fun wf=>?_;intro h1 e1;rw[aH G]at e1;obtain⟨b1,k1,n1,aa⟩:=aB wf e1;refine⟨cV d,⟨rfl,cH b1 G⟩,?_⟩;rw[aH G];refine(TR w d G h1).wf fun v h2 O ac ⟨e,k2⟩=>?_;generalize hD:(if fW w then dX w.toNat d else bH)=U at e;have E:U.length=32:=by
  subst hD;by_cases hw:fW w
  ·rw[if_pos hw];exact iK G (by unfold fW at hw;omega)
  ·rw[if_neg hw];rfl
 refine⟨cV U,_,by rw[aH E];exact e,?_⟩;intro h3 e3;rw[dU]at e3;obtain⟨b3,k3,n3,V⟩:=aB O e3;obtain⟨h4,e4,b4,k4,_,n4,ad⟩:=bP V (vs:=bc U) b3 k3 O (Uf _) (by rw[aJ,aJ,E];rfl) (aZ _);have W:=Kept.blk k4 (Kept.blk k2 b1);refine⟨rfl,h4,by rw[aH E];exact e4,cV U,fun _=>⟨rfl,cH b4 E⟩,cV d,fun _=>⟨rfl,cH W G⟩,?_,(k1.trans wf k2 fF).trans wf k4 fF⟩;congr 1;rw[aH E,aH G,Va,bN,aV,jE _ _ (by rw[E,G]),decide_eq_true_eq];subst hD;by_cases hw:fW w
 ·simp[hw]
 ·simp[hw]
theorem Rq(k:KidT){f:Nat}{p w:Int}{h:Hp}{g:ON}(U:Blk h f g [.int .i64 p,.int .i64 w]):C 153 [.agg (kidC k).toArray,pt f] h fun r h'=>r = .bool (decide (¬(fW w/\dX w.toNat k.sum=k.sum)))/\h'=h:=by
 refine uP ?_;unfold kidC;rw[<-aH k.hs];refine sv Kt fun wf=>?_;intro G e1;rw[aH k.hs]at e1;obtain⟨b1,O,n1,V⟩:=aB wf e1;have E:=Kept.blk O U;have hr:G.cellsAt h.next 1 32=some (aK .u8 32 (cV k.sum)):=by
  rw[b1.cells (by rw[Ug,aJ,k.hs];simp),aH k.hs];simp only[WZ,Wt,VC];rw[Uj (by rw[aJ,k.hs];omega)]
 refine⟨rfl,w,⟨rfl,E.one rfl⟩,rfl,cV k.sum,⟨rfl,hr⟩,?_⟩;rw[aH k.hs];refine(TP w k.sum k.hs G).mono fun v h2 ⟨e,e2⟩=>⟨_,e,?_,?_⟩
 ·congr 1;by_cases W:fW w/\dX w.toNat k.sum=k.sum <;> simp[W,aD]
 ·subst e2;exact O
theorem Nd{h:Hp}{p w:Int}{f:Nat}{g:ON}(bf:Blk h f g [.int .i64 p,.int .i64 w]){a:OA}{l c:Nat}{gr:ON}{ks:List KidT}(sl:SlT kidC 33 h gr a l c ks)(ad:l<=1099511600000):
  C 155 [.slice a l c,.func (.func 153) #[] #[pt f]] h fun r h'=>(∃b:Bool,r = .bool b/\(b=true↔∃k∈ks,¬(fW w/\dX w.toNat k.sum=k.sum)))/\h'=h:=by
 refine sv RA fun wf=>?_;have key:C 174 [.slice a l c,.func (.func 153) #[] #[pt f]] h fun r h'=>(∃n:Int,r = .int .i64 n/\(n>=0↔∃k∈ks,¬(fW w/\dX w.toNat k.sum=k.sum)))/\h'=h:=by
  refine sv Qx fun wf=>?_;have hL:=sl.len;refine⟨fun vals m hh=>∃i:Nat,[.int .i64 (i:Int)]=vals/\m=l - i/\i<=l/\hh=h/\(∀k∈ks.take i,¬¬(fW w/\dX w.toNat k.sum=k.sum)),⟨l,0,rfl,rfl,Uk _,rfl,by simp⟩,?_⟩;rintro n m hh ⟨i,e,rfl,hi,rfl,W⟩;simp at e;subst e;by_cases V:bO (i:Int) (aE l)=true
  ·rw[if_pos V];have U:i < l:=by rw[aC,aF]at V;omega
   obtain⟨E,eb⟩:∃q,ks[i]? = some q:=⟨_,Uh (by omega)⟩;obtain⟨ha,G⟩:=sl.get dL eb (j:=0) (m:=33) (by omega);have aa:aA (off a) (i:Int) 33=off a+i * 33+0:=by unfold aA;rw[Uo];omega
   have ek:[Value.int IntKind.u32 (E.page:Int)]++aK .u8 32 (cV E.sum)=kidC E:=by rw[aH E.hs];rfl
   have ac:((kidC E).drop 0).take 33=kidC E:=by rw[VC,Uj (by rw[dL];omega)]
   refine⟨⟨ha,Ui _,by omega⟩,(E.page:Int),cV E.sum,⟨rfl,by rw[aa,ek];rw[ac]at G;exact G⟩,?_⟩;rw[ek];refine(Rq E bf).mono fun r h1 ⟨e,e1⟩=>⟨_,e,?_⟩;subst e1;by_cases O:¬(fW w/\dX w.toNat E.sum=E.sum)
   ·rw[if_pos (decide_eq_true O)];exact⟨⟨_,rfl,⟨fun _=>⟨E,Uy eb,O⟩,fun _=>by omega⟩⟩,rfl⟩
   ·rw[if_neg (by rw[decide_eq_true_eq];exact O)];refine⟨l - (i+1),by simp only[aI];omega,i+1,?_,rfl,by omega,rfl,?_⟩
    ·rw[show aG .i64 (i:Int) 1=_ from cN 1 i (by omega)]
    ·intro q hm;rw[VG,eb]at hm;rcases VF.1 hm with hm | hm
     ·exact W q hm
     ·simp only[Option.toList_some,WC]at hm;subst hm;exact O
  ·rw[if_neg V];have U:i=l:=by
    by_cases O:i=l
    ·exact O
    ·exact absurd (aC.2 (by rw[aF];omega)) V
   subst U;rw[Uj (by omega)]at W;exact⟨⟨-1,rfl,⟨fun h=>by omega,fun⟨q,h1,h2⟩=>absurd h2 (W q h1)⟩⟩,rfl⟩
 refine key.mono fun r h1 ⟨⟨n,e,hn⟩,e1⟩=>⟨n,e,⟨_,rfl,?_⟩,e1⟩;rw[cK];exact hn
abbrev UP(h:Hp)(g:ON)(a:OA)(l c:Nat)(L:List Int):Prop:=SlT (fun n=>[Value.int .i64 n]) 1 h g a l c L
theorem Pq{h:Hp}{g:ON}{a:OA}{l c:Nat}{L:List Int}(s:UP h g a l c L)(hl:l<=1073741824)(x:Int):C 101 [.slice a l c,.int .i64 x] h fun v h'=>(∃n:Int,v = .int .i64 n/\(n>=0↔x∈L))/\h'=h:=by
 refine sv JI fun wf=>?_;have hL:=s.len;refine⟨fun vals m V=>∃i:Nat,[.int .i64 (i:Int)]=vals/\m=l - i/\i<=l/\V=h/\x∉L.take i,⟨l,0,rfl,rfl,Uk _,rfl,by simp⟩,?_⟩;rintro n m V ⟨i,e,rfl,hi,rfl,O⟩;simp at e;subst e;by_cases G:bO (i:Int) (aE l)=true
 ·rw[if_pos G];have E:i < l:=by rw[aC,aF]at G;omega
  have ex:L[i]? = some (L[i]'(by omega)):=Uh _;generalize L[i]'(by omega)=y at ex;have hr:=SlT.get (enc:=fun n=>[Value.int .i64 n]) (w:=1) (fun _=>rfl) s ex (j:=0) (m:=1) (Uf 1);refine⟨⟨hr.1,Ui _,by omega⟩,y,⟨rfl,hr.2.trans rfl⟩,?_⟩;by_cases he:bX x y=true
  ·rw[if_pos he];rw[aV]at he;subst he;exact⟨⟨_,rfl,⟨fun _=>Uy ex,fun _=>by omega⟩⟩,rfl⟩
  ·rw[if_neg he];have U:x≠y:=fun h=>he (aV.2 h);refine⟨l - (i+1),by simp only[aI];omega,i+1,?_,rfl,by omega,rfl,?_⟩
   ·rw[cF (by omega) (by omega)];rfl
   ·rw[VG,ex];simp[O,U]
 ·rw[if_neg G];have E:i=l:=by
   by_cases W:i=l
   ·exact W
   ·exact absurd (aC.2 (by rw[aF];omega)) G
  subst E;rw[Uj (by omega)]at O;exact⟨⟨-1,rfl,⟨fun h=>by omega,fun h=>absurd h O⟩⟩,rfl⟩
theorem HV{h:Hp}{g:ON}{a:OA}{l c:Nat}{L:List Int}(s:UP h g a l c L)(hl:l<=1073741824)(x:Int):C 77 [.slice a l c,.int .i64 x] h fun v h'=>v = .bool (decide (x∈L))/\h'=h:=by
 refine sv Bn fun wf=>?_;refine(Pq s hl x).mono fun v G ⟨⟨n,e1,e2⟩,E⟩=>⟨n,e1,?_,E⟩;congr 1;rw[Va,cK,decide_eq_true_eq];exact e2
theorem Pm(p w:Int)(h:Hp):C 47 [.agg (Array.mk [.int .i64 p,.int .i64 w])] h fun v h'=>v = .bool (decide (Fr p w))/\Kept h h':=by
 refine sv JH fun wf=>?_;intro V e1 G e2;obtain⟨b1,k1,n1,O⟩:=aB wf e1;obtain⟨b2,W,n2,aa⟩:=aB O e2;have U:=k1.trans wf W fF;have E:=Kept.blk W b1;have s2:UP G (some V.next) (some ⟨V.next,0,none⟩) 4 4 [1024,2048,4096,8192]:=⟨⟨Uf _,rfl,.inl rfl,fun _=>⟨_,b2,Uf _,rfl⟩⟩,rfl⟩;have r0:G.cellsAt h.next 0 1=some [.int .i64 p]:=E.one rfl;have r1:G.cellsAt h.next 1 1=some [.int .i64 w]:=E.one rfl;refine⟨rfl,p,⟨rfl,r0⟩,(HV s2 (by omega) p).mono fun v h3 ⟨e3,e4⟩=>?_⟩;subst e4;refine⟨_,e3,fun _=>rfl,w,fun _=>⟨rfl,r1⟩,fun _=>rfl,w,fun _=>⟨rfl,r1⟩,?_,U⟩;congr 1;rw[Va];simp only[bN,cK,eV,decide_eq_true_eq,VM,List.not_mem_nil,or_false];unfold Fr
 omega
theorem zS(p w:Int)(h:Hp):C 47 [fr p w] h fun v h'=>v = .bool (decide (Fr p w))/\h'=h :=
 (Pm p w h).trim (of_decide_eq_true (by kernel_rfl)) fun v h' ⟨e,k⟩=>⟨fS k,by rw[e];rfl,e⟩
end Go.Proofs.YtmapagggnigfpaaGreat.pk
