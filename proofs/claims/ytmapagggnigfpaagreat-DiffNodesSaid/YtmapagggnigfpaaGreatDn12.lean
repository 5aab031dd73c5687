/- Joined: CoE. -/
import Derived.Test.YtmapagggnigfpaaGreatDn11
import Derived.Deep.Slices
import Derived.OpenShut
set_option linter.unusedVariables false
set_option linter.unusedSimpArgs false
namespace Go.Cn
open Go.ChangeShapes Go.WideShapes Go.ChangeAt
def Hp.addO(h:Hp)(o:Option Ob):Hp :=
 match o with
 | some o=>{h with obs:=Tr.set o (h.next+1) h.next h.obs,next:=h.next+1}
 | none=>{h with next:=h.next+1}
theorem Hp.ob_addO(h:Hp)(E:h.ob h.next=none)(o:Option Ob)(b:Nat):(h.addO o).ob b=if b=h.next then o else h.ob b:=by
 cases o with
 | none =>
  show h.ob b=_
  split
  ·rename_i e;subst e;exact E
  ·rfl
 | some o =>
  simp only[Hp.addO,Hp.ob];rw[Tr.get_set _ _ _ _ _ (by omega)]
theorem Hp.gs_addO(h:Hp)(o:Option Ob):(h.addO o).gs=h.gs:=by cases o <;> rfl
theorem Hp.next_addO(h:Hp)(o:Option Ob):(h.addO o).next=h.next+1:=by cases o <;> rfl
theorem Lies.mono{base:Nat}{σ cE:Sg}{w:World}{e:En}{cs:LV}{g:ON}(h:Lies base σ w e cs g)(hs:σ.le cE):Lies base cE w e cs g:=by
 obtain⟨⟨c,el,fr,E,G,O,U,V⟩,W⟩:=h;refine⟨⟨c,el,fr,E,G,O,?_,V⟩,W⟩;intro i v hv;obtain⟨v',h7,h8⟩:=U i v hv;exact⟨v',h7,h8.mono hs⟩
theorem HR.addO{base:Nat}{σ:Sg}{h:Hp}{w:World}(hr:HR base σ h w){o:Option Ob}{e:En}(he:e.rb < w.heap.size)(aj:e.rb < base)
  (ho:o=none\/∃cs t,o=some (.cells cs t none)/\Lies base (σ.put h.next e) w e cs none):HR base (σ.put h.next e) (h.addO o) w:=by
 have ak:σ h.next=none:=hr.none_next (Uf _);have hle:σ.le (σ.put h.next e):=Sg.put_le ak;have G:∀b e',(σ.put h.next e) b=some e'->(b=h.next/\e'=e)\/(b≠h.next/\σ b=some e'):=by
  intro b e' hb;unfold Sg.put at hb
  split at hb
  ·rename_i hh;left;exact⟨hh,by simpa using hb.symm⟩
  ·rename_i hh;right;exact⟨hh,hb⟩
 have W:h.ob h.next=none:=(hr.fresh _ (Uf _)).1;have U:=Hp.ob_addO h W o;have aa:=Hp.gs_addO h o;have af:=Hp.next_addO h o;have ah:∀cs t g,o=some (.cells cs t g)->g=none:=by
  intro cs t g ac;rcases ho with E | ⟨al,t',E,_⟩
  ·rw[E]at ac;simp at ac
  ·rw[E]at ac;simp at ac;exact ac.2.2.symm
 have hold:∀b cs t g,(h.addO o).ob b=some (.cells cs t (some g))->b≠h.next/\h.ob b=some (.cells cs t (some g)):=by
  intro b cs t g O;rw[U]at O
  split at O
  ·have:=ah _ _ _ O;simp at this
  ·rename_i ad;exact⟨ad,O⟩
 have ai:Oth base (σ.put h.next e) (h.addO o) w:=by
  refine hr.oth.step hle ?_ (fun k o E _=>E) ?_
  ·intro b e' o' E V h3;rw[U]at V
   split at V
   ·rcases ho with h4 | ⟨cs,t,h4,_⟩
    ·rw[h4]at V;simp at V
    ·rw[h4]at V;cases V;simp[Ob.isOth]at h3
   ·rename_i ad
    rcases G b e' E with ⟨h5,_⟩ | ⟨_,h5⟩
    ·exact absurd h5 ad
    ·exact⟨V,h5⟩
  ·intro b e' E V;rcases G b e' E with ⟨_,rfl⟩ | ⟨_,h5⟩
   ·right;exact aj
   ·rw[h5]at V;simp at V
 refine⟨hr.base_le,?_,?_,?_,?_,?_,?_,?_,?_,ai⟩
 ·intro b e' hb;rw[af];rcases G b e' hb with ⟨rfl,rfl⟩ | ⟨_,V⟩
  ·exact⟨by omega,he⟩
  ·have:=hr.dom _ _ V;omega
 ·intro b hb;rw[af]at hb;rw[U,if_neg (by omega),aa];exact hr.fresh b (by omega)
 ·intro b e' cs t g hb O hl;rcases G b e' hb with ⟨rfl,rfl⟩ | ⟨E,V⟩
  ·rw[U,if_pos rfl]at O;rcases ho with h3 | ⟨al,t',h3,h4⟩
   ·rw[h3]at O;simp at O
   ·rw[h3]at O;simp at O;obtain⟨rfl,rfl,rfl⟩:=O;exact h4
  ·rw[U,if_neg E]at O;have an:h.live b g=true:=by
    cases g with
    | none=>rfl
    | some g=>simpa[Hp.live,aa]using hl
   exact(hr.cell b e' cs t g V O an).mono hle
 ·intro b cs t g O;obtain⟨_,O⟩:=hold _ _ _ _ O;have:=hr.grp _ _ _ _ O;rw[af];omega
 ·intro b e' cs t g hb O;obtain⟨ad,O⟩:=hold _ _ _ _ O;rcases G b e' hb with ⟨rfl,rfl⟩ | ⟨E,V⟩
  ·exact absurd rfl ad
  ·obtain⟨e2,h3⟩:=hr.gdom _ _ _ _ _ V O;exact⟨e2,hle _ _ h3⟩
 ·intro g l hg b hb;rw[aa]at hg;obtain⟨cs,t,E⟩:=hr.stack g l hg b hb;refine⟨cs,t,?_⟩;rw[U,if_neg]
  ·exact E
  ·intro e2;subst e2;rw[W]at E;simp at E
 ·intro g l hg;rw[aa]at hg;have ae:=hr.stack g l hg;have hp:=hr.nest g l hg;refine hp.imp_of_mem ?_;intro b1 b2 m1 m2 hn e1 e2 lA kH t1 t2 g1 g2 s1 s2 o1 o2 ag;have n1:b1≠h.next:=by
   obtain⟨cs,t,E⟩:=ae b1 m1;intro e3;subst e3;rw[W]at E;simp at E
  have n2:b2≠h.next:=by
   obtain⟨cs,t,E⟩:=ae b2 m2;intro e3;subst e3;rw[W]at E;simp at E
  rw[U,if_neg n1]at o1;rw[U,if_neg n2]at o2;have s1:σ b1=some e1:=by rcases G _ _ s1 with ⟨E,_⟩ | ⟨_,E⟩;exact absurd E n1;exact E
  have s2:σ b2=some e2:=by rcases G _ _ s2 with ⟨E,_⟩ | ⟨_,E⟩;exact absurd E n2;exact E
  exact hn e1 e2 lA kH t1 t2 g1 g2 s1 s2 o1 o2 ag
 ·intro b1 b2 e1 e2 lA kH t1 t2 g1 g2 s1 s2 o1 o2 l1 l2 ag;obtain⟨n1,o1⟩:=hold _ _ _ _ o1;obtain⟨n2,o2⟩:=hold _ _ _ _ o2;have s1:σ b1=some e1:=by rcases G _ _ s1 with ⟨E,_⟩ | ⟨_,E⟩;exact absurd E n1;exact E
  have s2:σ b2=some e2:=by rcases G _ _ s2 with ⟨E,_⟩ | ⟨_,E⟩;exact absurd E n2;exact E
  have hl:∀b g,(h.addO o).live b (some g)=h.live b (some g):=by intro b g;simp[Hp.live,aa]
  rw[hl]at l1 l2;exact hr.apart b1 b2 e1 e2 lA kH t1 t2 g1 g2 s1 s2 o1 o2 l1 l2 ag
section
variable (P:Program)
def pK(G:TI->LV->Prop):List Field->LV->Prop
 | [],cs=>cs=[]
 | f::fs,cs=>∃c1 c2,cs=c1++c2/\G f.type c1/\pK G fs c2
def Ct(e:TI)(w n:Nat):List Field:=(List.range n).map fun i=>{name:= "",type:=e,offset:=i * w,embedded:=false,tag:= "",pkgPath:= "",byteOffset:=0}
theorem FE{e:TI}{w n i:Nat}{f:Field}(h:(Ct e w n)[i]? = some f):i < n/\f.type=e/\f.offset=i * w:=by
 unfold Ct at h;rw[VB]at h
 cases hr:(List.range n)[i]? with
 | none=>rw[hr]at h;simp at h
 | some j =>
  rw[hr]at h;obtain⟨E,G⟩:=Us.1 hr;simp at E G;simp at h;subst h;exact⟨E,rfl,by rw[G]⟩
theorem OB{e:TI}{w n:Nat}{p:Field->Bool}(h:∀f,f.type=e->p f=true):(Ct e w n).all p=true:=by
 rw[VK];intro f E;unfold Ct at E;rw[Uu]at E;obtain⟨i,_,rfl⟩:=E;exact h _ rfl
theorem Nz(e:TI)(w n:Nat):(Ct e w n).length=n:=by simp[Ct]
def fN(h:Hp)(N:Nat):(fuel:Nat)->TI->LV->Prop
 | 0,_,_=>False
 | n+1,t,cs=>match P.underlying t with
  | some .bool=>∃b,cs=[.bool b]
  | some (.int k)=>∃i,cs=[.int k i]/\(Lit.int k i).wf=true
  | some .string=>∃s,cs=[.string s]/\s.size<=N
  | some (.struct fs)=>pK (fN h N n) fs.toList cs
  | some (.slice e)=>cs=[.slice none 0 0]\/∃b l c,cs=[.slice (some ⟨b,0,none⟩) l c]/\l<=c/\c<=N/\
    (0 < l->∃CS,Blk h b none CS/\CS.length=l * P.cellsOf e/\∀i,i < l->fN h N n e ((CS.drop (i * P.cellsOf e)).take (P.cellsOf e)))
  | some (.array len e)=>pK (fN h N n) (Ct e (P.cellsOf e) len) cs
  | _=>False
def tiled:List Field->Nat->Nat->Bool
 | [],o,n=>o==n
 | f::fs,o,n=>f.offset==o&&tiled fs (o+P.cellsOf f.type) n
def fT:(fuel:Nat)->TI->Bool
 | 0,_=>false
 | n+1,t=>match P.underlying t with
  | some .bool | some (.int _) | some .string=>P.cellsOf t==1
  | some (.struct fs)=>tiled P fs.toList 0 (P.cellsOf t)&&fs.toList.all fun f=>fT n f.type
  | some (.slice e)=>P.cellsOf t==1&&decide (0 < P.cellsOf e)&&fT n e
  | some (.array len e)=>tiled P (Ct e (P.cellsOf e) len) 0 (P.cellsOf t)&&fT n e
  | _=>false
structure MeasT{H:Type}(N:Nat)(Q:TI->DataW H->Prop):Prop where
 slice:∀t e elems spare,P.underlying t=some (.slice e)->Q t (.slice elems spare)->elems.length+spare.length<=N/\∀d∈elems,Q e d
 struct:∀t fs parts,P.underlying t=some (.struct fs)->Q t (.agg parts)->∀(i:Nat) f d,fs.toList[i]? = some f->parts[i]? = some d->Q f.type d
 array:∀t n e parts,P.underlying t=some (.array n e)->Q t (.agg parts)->∀d∈parts,Q e d
 str:∀t bytes,P.underlying t=some .string->Q t (.lit (.string bytes))->bytes.length<=N
def mK:(fuel:Nat)->TI->Bool
 | 0,_=>false
 | n+1,t=>match P.underlying t with
  | some (.struct fs)=>fs.toList.all fun f=>mK n f.type
  | some (.slice e)=>decide (1<=P.bytesOf e)&&mK n e
  | some (.array _ e)=>mK n e
  | _=>true
def Reach{H:Type}(R:Nat)(t:TI)(d:DataW H):Prop:=(∃m,mK P m t=true)/\∀x∈d.weights P t,x<=R
theorem lW{H:Type}{e:TI}{x:Nat}:∀{E:List (DataW H)} {d:DataW H},d∈E->x∈d.weights P e->x∈DataW.weightsAll P e E
 | y::E,d,G,O=>by
  simp only[DataW.weightsAll,VF]
  cases VM.1 G with
  | inl e=>subst e;exact .inl O
  | inr G=>exact .inr (lW G O)
theorem kU{H:Type}{x:Nat}:∀{O:List TI} {U:List (DataW H)} {i:Nat} {t:TI} {d:DataW H},O[i]? = some t->U[i]? = some d->x∈d.weights P t->x∈DataW.weightsEach P O U
 | [],U,i,t,d,E,_,_=>by simp at E
 | W::O,[],i,t,d,_,G,_=>by simp at G
 | W::O,y::U,0,t,d,E,G,V=>by
  simp at E G;subst E G;simp only[DataW.weightsEach,VF];exact .inl V
 | W::O,y::U,i+1,t,d,E,G,V=>by
  simp only[DataW.weightsEach,VF];exact .inr (kU (by simpa using E) (by simpa using G) V)
theorem Reach.meas{H:Type}(R:Nat):MeasT P R (Reach P (H:=H) R):=by
 refine⟨fun t e elems spare hu ⟨⟨m,hm⟩,hw⟩=>?_,fun t fs parts hu ⟨⟨m,hm⟩,hw⟩ i f d O E=>?_,fun t n e parts hu ⟨⟨m,hm⟩,hw⟩ d E=>?_,fun t bytes hu ⟨_,hw⟩=>?_⟩
 ·cases m with
  | zero=>simp[mK]at hm
  | succ m =>
   unfold mK at hm;simp only[hu,Uw,decide_eq_true_eq]at hm;simp only[DataW.weights,hu]at hw;refine⟨?_,fun d E=>⟨⟨m,hm.2⟩,fun x G=>hw x (WL _ (WW _ (lW P E G)))⟩⟩;have U:=hw _ (Wr ..);exact Nat.le_trans (Nat.le_mul_of_pos_right _ hm.1) U
 ·cases m with
  | zero=>simp[mK]at hm
  | succ m =>
   unfold mK at hm;simp only[hu,VK]at hm;simp only[DataW.weights,hu]at hw;exact⟨⟨m,hm f (Uy O)⟩,fun x G=>hw x (kU P (by rw[VB,O];rfl) E G)⟩
 ·cases m with
  | zero=>simp[mK]at hm
  | succ m =>
   unfold mK at hm;simp only[hu]at hm;simp only[DataW.weights,hu]at hw;exact⟨⟨m,hm⟩,fun x G=>hw x (lW P E G)⟩
 ·exact hw _ (by simp[DataW.weights])
end
section
variable {P:Program}
theorem pK.mono{G E:TI->LV->Prop}(O:∀t cs,G t cs->E t cs):∀{fs:List Field} {cs:LV},pK G fs cs->pK E fs cs
 | [],cs,h=>h
 | f::fs,cs,⟨c1,c2,U,V,W⟩=>⟨c1,c2,U,O _ _ V,pK.mono O W⟩
theorem fN.keep{S:NP}{h h':Hp}(k:Keep S h h'){N:Nat}:∀{n:Nat} {t:TI} {cs:LV},fN P h N n t cs->fN P h' N n t cs
 | 0,_,_,E=>E
 | n+1,t,cs,E=>by
  unfold fN at E ⊢
  split at E <;> try exact E
  ·exact E.mono fun t cs h=>fN.keep k h
  ·rcases E with E | ⟨b,l,c,G,O,U,V⟩
   ·exact .inl E
   ·refine .inr ⟨b,l,c,G,O,U,fun hl=>?_⟩;obtain⟨CS,W,h6,h7⟩:=V hl;exact⟨CS,k.blk W (by simp),h6,fun i hi=>fN.keep k (h7 i hi)⟩
  ·exact E.mono fun t cs h=>fN.keep k h
section
variable {h:Hp} {N n:Nat} {t:TI} {cs:LV}
theorem fN.struct{fs:Array Field}(hu:P.underlying t=some (.struct fs))(E:fN P h N n t cs):∃m,n=m+1/\pK (fN P h N m) fs.toList cs:=by
 cases n with
 | zero=>exact E.elim
 | succ n=>unfold fN at E;rw[hu]at E;exact⟨n,rfl,E⟩
theorem fN.bool(hu:P.underlying t=some .bool)(E:fN P h N n t cs):∃b,cs=[.bool b]:=by
 cases n with
 | zero=>exact E.elim
 | succ n=>unfold fN at E;rw[hu]at E;exact E
theorem fN.int{k:IntKind}(hu:P.underlying t=some (.int k))(E:fN P h N n t cs):∃i,cs=[.int k i]/\(Lit.int k i).wf=true:=by
 cases n with
 | zero=>exact E.elim
 | succ n=>unfold fN at E;rw[hu]at E;exact E
theorem fN.string(hu:P.underlying t=some .string)(E:fN P h N n t cs):∃s,cs=[.string s]/\s.size<=N:=by
 cases n with
 | zero=>exact E.elim
 | succ n=>unfold fN at E;rw[hu]at E;exact E
theorem BN{α:Type}{enc:α->LV}{w:Nat}{CS:LV}:∀(l:Nat),CS.length=l * w->(∀i,i < l->∃x,(CS.drop (i * w)).take w=enc x)->∃L:List α,L.length=l/\CS=L.flatMap enc
 | 0,hl,_=>⟨[],rfl,by simp at hl;simp[hl]⟩
 | l+1,hl,G=>by
  obtain⟨L,O,he⟩:=BN (enc:=enc) (w:=w) (CS:=CS.take (l * w)) l (by rw[Uq,hl,Nat.succ_mul];omega) (fun i hi=>by
   obtain⟨x,E⟩:=G i (by omega);refine⟨x,?_⟩;have U:i * w+w<=l * w:=by rw[<-Nat.succ_mul];exact VU w hi
   rw[List.drop_take,List.take_take,Vc (by omega)];exact E)
  obtain⟨x,E⟩:=G l (by omega);refine⟨L++[x],by simp[O],?_⟩;rw[VX,<-he];simp only[Vg,List.flatMap_nil,VJ];rw[<-E];rw[Uj (l:=CS.drop (l * w)) (by rw[Vf,hl,Nat.succ_mul];omega),WA]
theorem fN.slice{e:TI}{α:Type}{enc:α->LV}{w:Nat}(hu:P.underlying t=some (.slice e))(hw:P.cellsOf e=w)(G:fN P h N n t cs)
  (he:∀m cs,fN P h N m e cs->∃x,cs=enc x):∃a l c L,cs=[.slice a l c]/\c<=N/\SlT enc w h none a l c L:=by
 cases n with
 | zero=>exact G.elim
 | succ n =>
  unfold fN at G;rw[hu]at G;rcases G with rfl | ⟨b,l,c,rfl,E,U,O⟩
  ·exact⟨none,0,0,[],rfl,Uk _,SlT.nil h none⟩
  ·by_cases hl:0 < l
   ·obtain⟨CS,hb,hlen,O⟩:=O hl;rw[hw]at hlen O;obtain⟨L,V,rfl⟩:=BN (enc:=enc) l hlen fun i hi=>he _ _ (O i hi);refine⟨_,l,c,L,rfl,by omega,⟨E,hlen,.inl rfl,fun _=>⟨_,hb,by omega,?_⟩⟩,V⟩;rw[VC,Uj (by omega)]
   ·have:l=0:=by omega
    subst this;exact⟨_,0,c,[],rfl,U,⟨E,by simp,.inl rfl,fun h0=>by omega⟩,rfl⟩
end
theorem vU{h:Hp}(wf:Wf h)(o:Option Ob):Kept h (h.addO o):=by
 have E:=Hp.ob_addO h (wf.fresh _ (Uf _)).1 o;refine⟨by rw[Hp.next_addO];omega,fun b cs t hb=>?_,fun b cs t g hb _=>?_,fun b o hb _ _=>by rw[E,if_neg (by have:=wf.lt hb;omega)];exact hb⟩
 ·rw[E,if_neg (by have:=wf.lt hb;omega)];exact hb
 ·rw[E,if_neg (by have:=wf.lt hb;omega),Hp.gs_addO];exact⟨hb,rfl⟩
variable {H:Type} {enc:TI×Value->H} {w:World} {B:DataW H->Nat}
def Ie(P:Program)(w:World)(N n:Nat)(σ:Sg)(h:Hp)(cs:LV)(G:Hp->LV->Prop):Prop :=
 ∃cE h' cs',σ.le cE/\HR w.heap.size cE h' w/\Kept h h'/\bK cE cs' cs/\G h' cs'
theorem HI{Q:TI->DataW H->Prop}(N:Nat)(M:MeasT P N Q):∀(n m:Nat) (t:TI) (cs:LV) (x:DataW H×List MemPlace),fT P m t=true->DataW.trod enc P w 0 (fun _=>true) true n t cs=some x->Q t x.1->
  (∀a l c,Value.slice (some a) l c∈cs->0 < w.heap.size)->∀(σ:Sg) (h:Hp),HR w.heap.size σ h w->Ie P w N n σ h cs fun h' E=>fN P h' N n t E
 | 0,m,t,cs,x,_,hx,_,_,σ,h,hr=>by simp[DataW.trod]at hx
 | n+1,0,t,cs,x,hs,_,_,_,σ,h,hr=>by simp[fT]at hs
 | n+1,m+1,t,cs,x,hs,hx,hB,hz,σ,h,hr=>by
  have wf:=hr.wf;have main:∀(gs:List Field) (ys:List (DataW H×List MemPlace)) (o:Nat) (cs:LV) (σ:Sg) (h:Hp),tiled P gs o (o+cs.length)=true->gs.all (fun f=>fT P m f.type)=true->
    ys.length=gs.length->(∀(i:Nat) f,gs[i]? = some f->DataW.trod enc P w 0 (fun _=>true) true n f.type ((cs.drop (f.offset - o)).take (P.cellsOf f.type))=ys[i]?)->(∀(i:Nat) f y,gs[i]? = some f->ys[i]? = some y->Q f.type y.1)->
    (∀a l c,Value.slice (some a) l c∈cs->0 < w.heap.size)->HR w.heap.size σ h w->Ie P w N n σ h cs fun h' E=>pK (fN P h' N n) gs E:=by
   intro gs
   induction gs with
   | nil =>
    intro ys o cs σ h ht _ _ _ _ _ hr;simp[tiled]at ht;subst ht;exact⟨σ,h,[],Sg.le_refl σ,hr,Keep.refl _ _,bK.nil σ,rfl⟩
   | cons f gs ih =>
    intro ys o cs σ h ht ac hlen O av hz hr;simp only[tiled,Uw,beq_iff_eq]at ht;simp only[List.all_cons,Uw]at ac;obtain⟨ho,ht⟩:=ht
    cases ys with
    | nil=>simp at hlen
    | cons y ys =>
     have h0:=O 0 f (by simp);simp only[List.getElem?_cons_zero]at h0;rw[show f.offset - o=0 by omega,VC]at h0;obtain⟨U,G,c1,l1,r1,k1,e1,g1⟩:=HI N M n m f.type _ y ac.1 h0 (av 0 f y rfl rfl) (fun a l c hm=>hz a l c (WM hm)) σ h hr;have hle:P.cellsOf f.type<=cs.length:=by
      have:∀(gs:List Field) (a b:Nat),tiled P gs a b=true->a<=b:=by
       intro gs
       induction gs with
       | nil=>intro a b h;simp[tiled]at h;omega
       | cons g gs ih=>intro a b h;simp only[tiled,Uw]at h;have:=ih _ _ h.2;omega
      have:=this _ _ _ ht
      omega
     obtain⟨al,h2,c2,l2,r2,k2,e2,g2⟩:=ih ys (o+P.cellsOf f.type) (cs.drop (P.cellsOf f.type)) U G (by rw[Vf,show o+P.cellsOf f.type+(cs.length - P.cellsOf f.type)=o+cs.length by omega];exact ht) ac.2 (by simpa using hlen)
      (fun i g V=>by
       have:=O (i+1) g (by simpa using V);simp only[Vd]at this;rw[<-this,WJ];have ax:∀(gs:List Field) (a b:Nat),tiled P gs a b=true->∀(i:Nat) g,gs[i]? = some g->a<=g.offset:=by
        intro gs
        induction gs with
        | nil=>intro a b _ i g V;simp at V
        | cons g' gs ih =>
         intro a b h i g V;simp only[tiled,Uw,beq_iff_eq]at h
         cases i with
         | zero=>simp at V;subst V;omega
         | succ i=>have:=ih _ _ h.2 i g (by simpa using V);omega
       have:=ax _ _ _ ht i g V;rw[show P.cellsOf f.type+(g.offset - (o+P.cellsOf f.type))=g.offset - o by omega])
      (fun i g y V hy=>av (i+1) g y (by simpa using V) (by simpa using hy)) (fun a l c hm=>hz a l c (Ws hm)) r1
     refine⟨al,h2,c1++c2,Sg.le_trans l1 l2,r2,k1.trans hr.wf k2 (fF),?_,c1,c2,rfl,g1.keep k2,g2⟩;have:=(e1.mono l2).append e2
     rwa [WA]at this
  unfold fT at hs
  split at hs
  ·rename_i hu
   obtain⟨b,rfl,rfl⟩:=DataW.trod_bool hu hx;refine⟨σ,h,[.bool b],Sg.le_refl σ,hr,Keep.refl _ _,bK.cons (.bool b) (bK.nil σ),?_⟩;unfold fN;rw[hu];exact⟨b,rfl⟩
  ·rename_i k hu
   obtain⟨i,rfl,rfl,hw⟩:=DataW.trod_int hu hx;refine⟨σ,h,[.int k i],Sg.le_refl σ,hr,Keep.refl _ _,bK.cons (.int k i) (bK.nil σ),?_⟩;unfold fN;rw[hu];exact⟨i,rfl,hw⟩
  ·rename_i hu
   obtain⟨s,rfl,rfl,ay⟩:=DataW.trod_string hu hx;refine⟨σ,h,[.string s],Sg.le_refl σ,hr,Keep.refl _ _,bK.cons (.string s) (bK.nil σ),?_⟩;unfold fN;rw[hu];refine⟨s,rfl,?_⟩;have G:=M.str t s.data.toList hu hB;have h2:s.data.toList.length=s.size:=VE
   omega
  ·rename_i fs hu
   simp only[Uw]at hs;obtain⟨xs,n',e,rfl,hl,an,hf⟩:=DataW.trod_struct hu hx
   cases e
   obtain⟨cE,h',E,G,h2,h3,h4,h5⟩:=main fs.toList xs 0 cs σ h (by rw[Nat.zero_add,hl];exact hs.1) hs.2 (by simpa using an) (fun i f V=>by simpa using hf i f (by simpa using V))
    (fun i f y hf hy=>M.struct t fs (xs.map (·.1)) hu hB i f y.1 hf (by rw[VB,hy];rfl)) hz hr
   refine⟨cE,h',E,G,h2,h3,h4,?_⟩;unfold fN;rw[hu];exact h5
  ·rename_i e hu
   simp only[Uw,decide_eq_true_eq]at hs;obtain⟨⟨_,W⟩,hs⟩:=hs;rcases DataW.trod_slice hu hx with ⟨rfl,rfl⟩ | ⟨a,len,cap,elems,rest,n',e1,rfl,rfl,_,ag,_,bj,O,a9,_⟩
   ·refine⟨σ,h,[.slice none 0 0],Sg.le_refl σ,hr,Keep.refl _ _,bK.cons .snil (bK.nil σ),?_⟩;unfold fN;rw[hu];exact .inl rfl
   ·cases e1
    have ay:0 < w.heap.size:=hz a len cap (by simp);obtain⟨ba,ah⟩:=a9 rfl;have ad:cap<=N:=by
     have:=(M.slice t e (elems.map (·.1)) (rest.map (·.1)) hu hB).1;simp only[VP]at this
     omega
    have ae:0 < cap->a.spot=none/\a.block < w.heap.size:=by
     intro hc;have:∃i E,i < cap/\w.cells? 0 (a.add (i * P.cellsOf e)) (P.cellsOf e)=some E/\i=0:=by
      by_cases ap:0 < len
      ·have:=O 0 ap;rw[Uh (by omega)]at this;obtain⟨E,G,_⟩:=WT.1 this;exact⟨0,E,hc,G,rfl⟩
      ·have h0:len=0:=by omega
       have:=ah 0 (by omega);rw[Uh (by omega)]at this;obtain⟨E,G,_⟩:=WT.1 this;exact⟨0,E,hc,by simpa[h0]using G,rfl⟩
     obtain⟨i,E,_,G,rfl⟩:=this;obtain⟨_,h2,h3⟩:=World.cells?_some G;have h4:=h3 0 W;simp only[Nat.zero_mul]at h4;have h5:(a.add 0).add 0=a:=by simp[Addr.add]
     rw[h5,Uh (by omega)]at h4;unfold World.cell? at h4
     split at h4
     ·rename_i c el fr hh
      split at h4
      ·simp at h4
      ·rename_i az
       exact⟨by simpa using az,(VT.1 hh).1⟩
     ·simp at h4
    by_cases ap:len=0
    ·
     subst ap
     let en:En:=if a.block < w.heap.size then⟨a.block,a.off,0⟩ else⟨0,0,0⟩
     have a0:en.rb < w.heap.size:=by simp only[en];split <;> assumption
     refine⟨σ.put h.next en,h.addO none,[.slice (some ⟨h.next,0,none⟩) 0 cap],Sg.put_le (hr.none_next (Uf _)),hr.addO a0 a0 (.inl rfl),vU wf none,bK.cons ?_ (bK.nil _),?_⟩
     ·refine .sexact h.next 0 0 cap en a (by simp[Sg.put]) ag ?_;by_cases hc:cap=0
      ·exact .inl hc
      ·obtain⟨G,h2⟩:=ae (by omega)
       right
       simp only[en,if_pos h2,Vk]
       cases a;simp at G;subst G;rfl
     ·unfold fN;rw[hu];exact .inr ⟨h.next,0,cap,rfl,ag,ad,fun h0=>by omega⟩
    ·have hlen:0 < len:=by omega
     obtain⟨a4,af⟩:=ae (by omega);obtain⟨ab,ao,bk⟩:=a;simp at a4;subst a4;have steps:∀k,k<=len->∃(cE:Sg) (h':Hp) (CS R:LV),σ.le cE/\HR w.heap.size cE h' w/\Kept h h'/\bK cE CS R/\R.length=k * P.cellsOf e/\
       (∀j,j < k * P.cellsOf e->w.cell? ⟨ab,ao+j,none⟩=R[j]?)/\∀i,i < k->fN P h' N n e ((CS.drop (i * P.cellsOf e)).take (P.cellsOf e)):=by
      intro k
      induction k with
      | zero=>intro _;exact⟨σ,h,[],[],Sg.le_refl σ,hr,Keep.refl _ _,bK.nil σ,by simp,by simp,by simp⟩
      | succ k ih =>
       intro hk;obtain⟨U,G,CS,R,l1,r1,k1,e1,aa,hR,hG⟩:=ih (by omega);have a5:=O k (by omega);rw[Uh (by omega)]at a5;obtain⟨ck,PO,bb⟩:=WT.1 a5;obtain⟨_,a6,aq⟩:=World.cells?_some PO;have bf:Q e (elems[k]'(by omega)).1:=(M.slice t e (elems.map (·.1)) (rest.map (·.1)) hu hB).2 _ (List.mem_map_of_mem (List.getElem_mem (by omega:k < elems.length)));obtain⟨al,h2,c2,l2,r2,k2,e2,g2⟩:=HI N M n m e ck _ hs bb bf (fun _ _ _ _=>ay) U G r1;have aj:CS.length=k * P.cellsOf e:=by rw[e1.1,aa]
       have bi:c2.length=P.cellsOf e:=by rw[e2.1,a6]
       refine⟨al,h2,CS++c2,R++ck,Sg.le_trans l1 l2,r2,k1.trans wf k2 (fF),(e1.mono l2).append e2,by rw[Ug,aa,a6,Nat.succ_mul],?_,?_⟩
       ·intro j hj;rw[Nat.succ_mul]at hj;by_cases bg:j < k * P.cellsOf e
        ·rw[VQ (by omega)];exact hR j bg
        ·rw[VN (by omega),aa];have:=aq (j - k * P.cellsOf e) (by omega);rw[<-this];congr 1;simp only[Addr.add]
         split <;> split <;> simp <;> omega
       ·intro i hi;by_cases a7:i < k
        ·have h3:i * P.cellsOf e+P.cellsOf e<=k * P.cellsOf e:=by rw[<-Nat.succ_mul];exact VU _ a7
         rw[Vy (by omega),Vz (by rw[Vf];omega)];exact(hG i a7).keep k2
        ·have:i=k:=by omega
         subst this;rw[List.drop_append,VV (by omega),show i * P.cellsOf e - CS.length=0 by omega,VC,VH,Uj (by omega)];exact g2
     obtain⟨U,G,CS,R,l1,r1,k1,e1,aa,hR,hG⟩:=steps len (Uf _);have aj:CS.length=len * P.cellsOf e:=by rw[e1.1,aa]
     have ai:∃c el fr,w.heap[ab]? = some (.cells c el fr):=by
      have:=hR 0 (Nat.mul_pos hlen W);rw[Uh (by rw[aa];exact Nat.mul_pos hlen W)]at this;unfold World.cell? at this
      split at this
      ·rename_i c el fr hh;exact⟨c,el,fr,hh⟩
      ·simp at this
     obtain⟨c,el,fr,hh⟩:=ai;have a8:∀j,j < len * P.cellsOf e->c[ao+j]? = R[j]?:=by
      intro j hj;have:=hR j hj;rw[<-this];simp[World.cell?,hh]
     have bh:ao+len * P.cellsOf e<=c.size:=by
      have hj:len * P.cellsOf e - 1 < len * P.cellsOf e:=by have:=Nat.mul_pos hlen W;omega
      have:=a8 _ hj;rw[Uh (by omega)]at this;have:=(VT.1 this).1
      omega
     have ar:=r1.wf;have ak:U.le (U.put G.next ⟨ab,ao,c.size⟩):=Sg.put_le (r1.none_next (Uf _));have au:Lies w.heap.size (U.put G.next ⟨ab,ao,c.size⟩) w ⟨ab,ao,c.size⟩ CS none:=by
      refine⟨⟨c,el,fr,hh,rfl,by simp only;omega,?_,by simp⟩,af⟩;intro i v hv;have hi:i < CS.length:=(Us.1 hv).1;obtain⟨v',h3,h4⟩:=e1.get hv;exact⟨v',by rw[a8 i (by omega)];exact h3,h4.mono ak⟩
     refine⟨U.put G.next ⟨ab,ao,c.size⟩,G.addO (some (.cells CS e none)),[.slice (some ⟨G.next,0,none⟩) len cap],Sg.le_trans l1 ak,r1.addO af af (.inr ⟨CS,e,rfl,au⟩),k1.trans wf (vU ar _) (fF),bK.cons ?_ (bK.nil _),?_⟩
     ·exact .sexact G.next 0 len cap ⟨ab,ao,c.size⟩ ⟨ab,ao,none⟩ (by simp[Sg.put]) ag (.inr rfl)
     ·unfold fN;rw[hu];refine .inr ⟨G.next,len,cap,rfl,ag,ad,fun _=>⟨CS,?_,aj,fun i hi=>(hG i hi).keep (vU ar _)⟩⟩;refine⟨e,?_,rfl⟩;rw[Hp.ob_addO _ (ar.fresh _ (Uf _)).1,if_pos rfl]
  ·rename_i len e hu
   simp only[Uw]at hs;obtain⟨xs,n',e1,rfl,hl,an,hf⟩:=DataW.trod_array hu hx
   cases e1
   obtain⟨cE,h',E,G,h2,h3,h4,h5⟩:=main (Ct e (P.cellsOf e) len) xs 0 cs σ h (by rw[Nat.zero_add,hl];exact hs.1) (OB fun f hf=>by rw[hf];exact hs.2) (by rw[Nz];exact an)
    (fun i f V=>by
     obtain⟨g1,g2,g3⟩:=FE V;rw[g2,g3,Nat.sub_zero];exact hf i g1)
    (fun i f y hf hy=>by
     rw[(FE hf).2.1];exact M.array t len e (xs.map (·.1)) hu hB y.1 (List.mem_map_of_mem (Uy hy))) hz hr
   refine⟨cE,h',E,G,h2,h3,h4,?_⟩;unfold fN;rw[hu];exact h5
  ·simp at hs
end
end Go.Cn
