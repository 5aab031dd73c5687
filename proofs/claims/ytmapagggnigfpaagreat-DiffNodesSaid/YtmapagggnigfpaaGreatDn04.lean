/- Joined: CnI, CnJ. -/
import Derived.Test.YtmapagggnigfpaaGreatDn03
import Derived.Laws.IdiomStrings
import Derived.Laws.BytesArg
import Derived.Laws.BytesString
set_option linter.unusedVariables false
set_option linter.unusedSimpArgs false
namespace Go.Cn
section
variable {P:Program} {σ:Sg} {base:Nat} {h:Hp} {w:World}
theorem BV(hr:HR base σ h w){t:TI}{x x' v:Value}(hl:nB P t x h=some v)(hx:VRel σ x x'):∃v',(Instr.loadAt t x').run P w = .ok v' w/\VRel σ v v':=by
 unfold nB at hl
 split at hl
 ·rename_i b o
  obtain⟨_,e,he,rfl⟩:=hx.ptr_inv
  split at hl
  ·rename_i n G hs
   simp only[VD]at hl;obtain⟨cs,O,rfl⟩:=hl;obtain⟨h1,E,W,U,V⟩:=hr.cellsAt O he;refine⟨.agg E.toArray,?_,U.to_agg⟩;have:=run_loadCells_list (P:=P) w ⟨e.rb,e.ro+o,none⟩ E V;rw[W]at this;simp[Instr.loadAt,Instr.sureAddr,loadVar,tD G,cT hs,this]
  ·rename_i n G hs
   split at hl
   ·rename_i v0 O
    simp at hl;subst hl;obtain⟨h1,E,W,U,V⟩:=hr.cellsAt O he;obtain⟨y,hy,hv⟩:=U.get (i:=0) (x:=v0) (by simp);have h5:=V 0 y hy;rw[add_plain,Vk]at h5;exact⟨y,by simp[Instr.loadAt,Instr.sureAddr,loadVar,tD G,h5],hv⟩
   ·simp at hl
  ·simp at hl
 ·simp at hl
theorem uD:∀{cs:LV} {l:LU},bytesOf cs=some l->∃xs:List Int,cs=xs.map (fun n=>.int .u8 n)/\l=xs.map fun n=>UInt8.ofNat n.toNat
 | [],l,hb=>by simp[bytesOf]at hb;subst hb;exact⟨[],rfl,rfl⟩
 | v::cs,l,hb=>by
  cases v with
  | int k n =>
   cases k <;> simp only[bytesOf]at hb <;> first | (simp at hb;done) | skip
   simp only[VD]at hb;obtain⟨l',E,rfl⟩:=hb;obtain⟨xs,rfl,rfl⟩:=uD E;exact⟨n::xs,rfl,rfl⟩
  | _=>simp[bytesOf]at hb
theorem Ov(hr:HR base σ h w){tm:LV}{a:Act}(ht:eM σ tm a.tmps)(o:Oper){v:Value}(E:rop P tm o.op h=some v):
  ∃v',(execOp a.eval o).run P w = .ok (.value v') w/\VRel σ v v':=by
 obtain⟨dst,op,ty,pos,after,guard⟩:=o;have ev:=fun x=>kX ht x;unfold rop at E;simp only at E
 split at E
 ·rename_i t x
  obtain⟨v',O,W⟩:=BV hr E (ev x);exact⟨v',by simp[execOp,O],W⟩
 ·rename_i t x ix ok
  obtain⟨v',O,W⟩:=Ep hr E (ev x) (ev ix);exact⟨v',by simp[execOp,O],W⟩
 ·rename_i it
  obtain⟨v',O,W⟩:=HD (P:=P) hr E (ev it);exact⟨v',by simp[execOp,O],W⟩
 ·rename_i args ad
  split at E
  ·rename_i hl
   split at E
   ·rename_i x xs e2
    simp only[VD]at E;obtain⟨es,ae,rfl⟩:=E;have G:(args.map a.eval)[0]? = some (a.eval x):=by rw[Wh,<-VR,e2];rfl
    have V:∃t,ad[0]? = some t:=by
     unfold oA at hl
     split at hl
     ·rename_i t l e1;exact⟨t,by rw[<-VR,e1];rfl⟩
     ·simp at hl
    obtain⟨t,V⟩:=V;exact⟨_,by simp[execOp,resolve,invoke,builtin,Es hr V G hl ae (ev x)],.int _ _⟩
   ·simp at E
  ·simp at E
 ·rename_i src dst x
  have hx:=ev x
  split at E
  ·rename_i e n c hs hd G
   rw[G]at hx;obtain⟨_,_,U⟩:=hx.snil_inv
   split at E
   ·rename_i he
    simp at E;subst E;have:=run_convert_bytes_nil (P:=P) w src e hs he 0 0 dst hd;exact⟨_,by simp[execOp,U,this],.string _⟩
   ·simp at E
  ·rename_i e b o sp n c hs hd G
   rw[G]at hx;obtain⟨a',c',en,U,aa,aj,ak,ha,_⟩:=hx.slice_inv;simp only at aa ha
   split at E
   ·rename_i he
    split at E
    ·rename_i cs hc
     simp only[VD]at E;obtain⟨l,hl,rfl⟩:=E;obtain⟨xs,rfl,rfl⟩:=uD hl;obtain⟨O,al,W,h3,h4⟩:=hr.cellsAt hc aa;simp at O;refine⟨.string ⟨(xs.map fun n=>UInt8.ofNat n.toNat).toArray⟩,?_,.string _⟩;by_cases h0:n=0
     ·subst h0;have af:xs=[]:=VS O;subst af;have:=run_convert_bytes_back (P:=P) w src dst e a' c' [] hs he hd (by simp);simp at this;simp[execOp,U,this]
     ·have ag:a'=⟨en.rb,en.ro+o,none⟩:=by
       rcases ha with ac | ac
       ·exfalso
        omega
       ·exact ac
      subst ag;have:=run_convert_bytes_arg (P:=P) w src e hs he en.rb (en.ro+o) n c' xs O (fun i hi=>by
       have ah:(xs.map (fun n=>(Value.int .u8 n)))[i]? = some (.int .u8 (xs.getD i 0)):=by
        simp[Uh (show i < xs.length by omega)]
       obtain⟨y,hy,ai⟩:=h3.get ah;have:=h4 i y hy;rw[ai.int_inv,add_plain]at this;exact this) dst hd
      simp[execOp,U,this,strOfNums]
    ·simp at E
   ·simp at E
  ·simp at E
 ·simp at E
structure Src(P:Program)(hp:Array Obj)(size:Nat)(x':Value)(n:Nat)(gG:LV):Prop where
 len:∀w:World,w.heap=hp->(Builtin.lenOf x').run P w = .ok n w
 cells:∀w:World,w.heap=hp->∀m,m<=n->(Builtin.firstCells size m x').run P w = .ok (gG.take (m * size)).toArray w
 cells_len:gG.length=n * size
theorem bK.refl_of{σ:Sg}{l:LV}(h:∀v∈l,VRel σ v v):bK σ l l :=
 ⟨rfl,fun i x y E G=>by rw[E]at G;cases G;exact h x (Uy E)⟩
theorem zM(hr:HR base σ h w){size:Nat}{x x':Value}{n:Nat}{new:LV}(E:dC size x h=some (n,new))(hx:VRel σ x x'):
  ∃gG,bK σ new gG/\Src P w.heap size x' n gG:=by
 unfold dC at E
 split at E
 ·rename_i n' c
  obtain⟨rfl,rfl,rfl⟩:=hx.snil_inv;simp at E;obtain⟨rfl,rfl⟩:=E;exact⟨[],bK.nil σ,⟨fun G _=>by simp[Builtin.lenOf],fun G _ m hm=>by simp[Builtin.firstCells],by simp⟩⟩
 ·rename_i b o sp n' c
  obtain⟨a',c',e,rfl,he,ad,ae,ha,_⟩:=hx.slice_inv;simp only at he ha
  split at E
  ·rename_i h0
   subst h0;simp at E;obtain⟨rfl,rfl⟩:=E;refine⟨[],bK.nil σ,⟨fun G _=>by simp[Builtin.lenOf],fun G O m hm=>?_,by simp⟩⟩;have:m=0:=by omega
   subst this;simp[Builtin.firstCells,loadCells,loadCellsFrom]
  ·rename_i h0
   simp only[VD,Un]at E;obtain⟨cs,hc,rfl,rfl⟩:=E;have aa:a'=⟨e.rb,e.ro+o,none⟩:=by rcases ha with U | U <;> first | omega | exact U
   subst aa;obtain⟨h1,V,h2,h3,h4⟩:=hr.cellsAt hc he;refine⟨V,h3,⟨fun G _=>by simp[Builtin.lenOf],fun G O m hm=>?_,h2⟩⟩;have ac:m * size<=n' * size:=VU _ hm;have:=run_loadCells_list (P:=P) G ⟨e.rb,e.ro+o,none⟩ (V.take (m * size)) (fun j v W=>by
    rw[VZ]at W
    split at W
    ·have:=h4 j v W;simp only[World.cell?,O];exact this
    ·simp at W)
   rw[Uq,h2,Vc ac]at this;simp[Builtin.firstCells,this]
 ·rename_i s
  obtain rfl:=hx.string_inv
  split at E
  ·rename_i h1
   subst h1;simp at E;obtain⟨rfl,rfl⟩:=E;refine⟨s.data.toList.map fun b=>.int .u8 b.toNat,bK.refl_of (by simp;intro b _;exact .int _ _),⟨fun G _=>by simp[Builtin.lenOf],fun G O m hm=>?_,by simp⟩⟩;simp only[Builtin.firstCells,Sem.run_pure,Ve];congr 1;apply Array.ext';simp[ByteArray.data_extract,List.map_take]
  ·simp at E
 ·simp at E
theorem grownCap_le(w:World)(E old:Nat)(e:TI):E<=grownCap w E old e:=by
 simp[grownCap,Question.cut]
theorem BI(E:Nat):∀(r c:Nat),c<=2 * E+1024->Builtin.growBy E r c<=2 * E+1024
 | 0,c,h=>h
 | r+1,c,h=>by
  simp only[Builtin.growBy]
  split
  ·exact h
  ·exact BI E r _ (by omega)
theorem nextslicecap_le(E old:Nat)(h:old < E):Builtin.nextslicecap E old<=2 * E+1024:=by
 unfold Builtin.nextslicecap
 split
 ·omega
 ·split
  ·omega
  ·exact BI _ _ _ (by omega)
def Gf(P:Program)(xt:TI):Prop:=∃d,P.underlying xt=some d/\∀k,d≠.int k
theorem rK{t xt ty elem:TI}{i:TypeInfo}(hu:P.underlying t=some (.slice elem))(hi:P.info? elem=some i)(W:Gf P xt){x':Value}{n:Nat}{gG:LV}
  (hs:Src P w.heap i.size x' n gG) {a:OA} {l c:Nat} (U:l+n<=c) {w':World} (dN:∀b,a=some b->(storeCells (b.add (l * i.size)) gG).run P w = .ok () w') (hn:a=none->w'=w) :
  (Builtin.append_ #[t,xt] ty #[.slice a l c,x']).run P w = .ok (.slice a (l+n) c) w':=by
 obtain⟨d,hd,G⟩:=W;have V:((underlying xt).run P w) = .ok d w:=run_underlying hd w;have O:=hs.cells w rfl n (Uf _);have hlen:=hs.len w rfl;rw[<-hs.cells_len,Wi]at O;have hzero:(d matches .int _)=false:=by cases d <;> first | rfl | exact absurd rfl (G _)
 have E:(sizeOf elem).run P w = .ok i.size w:=cT (by simp[size?,hi]) w
 cases a with
 | none =>
  have:=hn rfl;subst this;simp[Builtin.append_,run_underlying hu,E,V,hzero,hlen,U,O]
 | some b =>
  simp[Builtin.append_,run_underlying hu,E,V,hzero,hlen,U,O,dN b rfl]
theorem nC{t xt ty elem:TI}{i:TypeInfo}{z:Value}(hu:P.underlying t=some (.slice elem))(hi:P.info? elem=some i)(hz:i.zero=some z)(hx:Gf P xt){x':Value}{n:Nat}{gG:LV}
  (E:Src P w.heap i.size x' n gG) {a:OA} {l c:Nat} (hc:c < l+n) (G:roomy (l+n) i.bytes=true) (hb:i.bytes≠0) {old:LV}
  (V:(Builtin.firstCells i.size l (.slice a l c)).run P w.drew = .ok old.toArray w.drew) :
  (Builtin.append_ #[t,xt] ty #[.slice a l c,x']).run P w = .ok (.slice (some ⟨w.heap.size,0,none⟩) (l+n) (grownCap w (l+n) c elem))
   (w.drew.alloc (.cells (old.toArray++gG.toArray++Builtin.zeroCells z.cells (grownCap w (l+n) c elem - (l+n))) elem)):=by
 obtain⟨d,hd,ad⟩:=hx;have ae:∀w:World,((underlying xt).run P w) = .ok d w:=fun w=>run_underlying hd w;have hf:=E.cells w.drew rfl n (Uf _);rw[<-E.cells_len,Wi]at hf;have hzero:(d matches .int _)=false:=by cases d <;> first | rfl | exact absurd rfl (ad _)
 have O:∀w:World,(sizeOf elem).run P w = .ok i.size w:=fun w=>cT (by simp[size?,hi]) w;have af:∀w:World,(typeInfo elem).run P w = .ok i w:=fun w=>run_typeInfo w hi;have ag:∀w:World,(zeroValue elem).run P w = .ok z w:=fun w=>gO (by simp[zero?,hi,hz]) w;have ah:¬(l+n<=c):=by omega
 have hr:(2 * (l+n)+1024) * i.bytes<=2 ^ 47:=by simpa[roomy]using G
 have h1:l+n<=2 ^ 47:=by
  have:(2 * (l+n)+1024) * 1<=(2 * (l+n)+1024) * i.bytes:=Nat.mul_le_mul_left _ (by omega)
  omega
 have ai:¬(((l+n:Nat):Int) > IntKind.i64.max):=by simp[IntKind.max,IntKind.signed,IntKind.bits];omega
 have W:=nextslicecap_le (l+n) c hc;have aj:¬(Builtin.nextslicecap (l+n) c * i.bytes > 2 ^ 48):=by
  have:=VU i.bytes W
  omega
 have U:∀(k:Nat) (w:World),(askRoom k).run P w = .ok () w:=by
  intro k w;unfold askRoom;split <;> simp[mark,Sem.run]
 have aa:¬((9223372036854775807:Int) < (l:Int)+(n:Int)):=by omega
 have ac:¬(281474976710656 < Builtin.nextslicecap (l+n) c * i.bytes):=by omega
 simp[Builtin.append_,run_underlying hu,O,ae,hzero,E.len w rfl,ah,aa,ac,af,Question.forced,U,V,hf,ag,newRow,grownCap];rw[<-Array.append_assoc];simp
theorem lF(z:AV)(n:Nat):((Array.range (n * z.size)).map fun i=>z[i % z.size]!).toList=Cn.zeroCells z.toList n:=by
 induction n with
 | zero=>simp[Cn.zeroCells]
 | succ n U =>
  have e1:Cn.zeroCells z.toList (n+1)=Cn.zeroCells z.toList n++z.toList:=by
   simp[Cn.zeroCells,List.replicate_succ']
  rw[e1,<-U];apply Vi;intro j;by_cases G:j < n * z.size
  ·rw[VQ (by simpa using G)];simp[G,show j < (n+1) * z.size by rw[Vb];omega]
  ·rw[VN (by simpa using G)];by_cases E:j < (n+1) * z.size
   ·have V:0 < z.size:=by
     rcases Nat.eq_zero_or_pos z.size with h0 | h0
     ·rw[h0]at E;simp at E
     ·exact h0
    have hm:j % z.size=j - n * z.size:=by
     have:j=(j - n * z.size)+n * z.size:=by omega
     rw[this,Nat.add_mul_mod_self_right,Up (by rw[Vb]at E;omega)]
     omega
    have O:j - n * z.size < z.size:=by rw[Vb]at E;omega
    simp[E,hm,O]
   ·have:¬j - n * z.size < z.size:=by rw[Vb]at E;omega
    simp[E,this]
theorem AI(z:LV)(n:Nat):(Cn.zeroCells z n).length=n * z.length:=by simp[Cn.zeroCells]
theorem nE{z:LV}{n:Nat}{v:Value}(h:v∈Cn.zeroCells z n):v∈z:=by
 simp only[Cn.zeroCells,List.mem_flatten,List.mem_replicate]at h;obtain⟨l,⟨_,rfl⟩,E⟩:=h;exact E
theorem pU{z:Value}(h:plainV 100 z=true):∀v∈z.cells.toList,VRel σ v v:=by
 intro v E;have G:bK σ z.cells.toList z.cells.toList:=sX h;obtain⟨i,hi⟩:=WD E;exact G.2 i v v hi hi
theorem yS{v v':Value}(h:VRel σ v v')(E:isCell v=true):v'.oneCell'=true:=by
 cases h <;> first | rfl | (simp[isCell,Cn.unk]at E;done)
end
section
variable {P:Program} {σ:Sg} {base:Nat} {h h':Hp} {w:World}
def UY(P:Program)(base:Nat)(σ:Sg)(h:Hp)(w:World)(r:Result Next)(v:Value)(h':Hp):Prop :=
 ∃cE nx v' w',r = .ok nx w'/\(nx = .value v'\/(nx = .skip/\v'=undef))/\VRel cE v v'/\HR base cE h' w'/\Ext base σ h w cE h' w'
def lM(P:Program)(base:Nat)(σ:Sg)(h:Hp)(w:World)(r:Result Value)(v:Value)(h':Hp):Prop :=
 ∃cE v' w',r = .ok v' w'/\VRel cE v v'/\HR base cE h' w'/\Ext base σ h w cE h' w'
theorem lM.eff{r:Result Value}{v:Value}(hr:lM P base σ h w r v h'):UY P base σ h w (r.andThen fun v w=>.ok (.value v) w) v h':=by
 obtain⟨cE,v',w',rfl,E,G,O⟩:=hr;exact⟨cE,.value v',v',w',rfl,.inl rfl,E,G,O⟩
theorem lM.same(hr:HR base σ h w){r:Result Value}{v v':Value}(E:VRel σ v v')(he:r = .ok v' w):lM P base σ h w r v h :=
 ⟨σ,v',w,he,E,hr,Ext.refl _ _ _ _⟩
theorem lM.alloc(hr:HR base σ h w){w':World}{cs:LV}{t:TI}{c:AV}{el:TI}{fr:Nat×Nat}
  (hw:WNew w w' (.cells c el fr)) (E:cs.length<=c.size) (G:∀(i:Nat) v,cs[i]? = some v->∃v',c[i]? = some v'/\VRel σ v v') (O:∀j,j < c.size->¬(fr.1<=j/\j < fr.2))
  {v v':Value} (U:∀cE:Sg,cE h.next=some ⟨w.heap.size,0,c.size⟩->VRel cE v v') {r:Result Value} (he:r = .ok v' w'):lM P base σ h w r v (h.alloc cs t):=by
 obtain⟨V,W,h3⟩:=hr.alloc (t:=t) hw E G O;exact⟨_,v',w',he,U _ h3,V,W⟩
theorem WNew.alloc(w:World)(o:Obj):WNew w (w.alloc o) o:=⟨rfl,rfl,rfl,rfl⟩
theorem WNew.drew(w:World)(o:Obj):WNew w (w.drew.alloc o) o:=⟨rfl,rfl,rfl,rfl⟩
theorem bK.rel{cs:LV}{c:AV}(hl:bK σ cs c.toList):∀(i:Nat) v,cs[i]? = some v->∃v',c[i]? = some v'/\VRel σ v v':=by
 intro i v G;obtain⟨y,O,E⟩:=hl.get G;exact⟨y,by simpa using O,E⟩
theorem bK.prefix{cs:LV}{c:AV}{ys zs:LV}(hl:bK σ cs ys)(O:c.toList=ys++zs):∀(i:Nat) v,cs[i]? = some v->∃v',c[i]? = some v'/\VRel σ v v':=by
 intro i v U;obtain⟨y,G,E⟩:=hl.get U;refine⟨y,?_,E⟩;have hi:=(Us.1 G).1;rw[<-VR,O,VQ hi];exact G
theorem qV(hr:HR base σ h w){b o:Nat}{vs E:LV}(hs:h.store b o vs=some h'){e:En}(he:σ b=some e)(U:bK σ vs E):
  ∃w',(storeCells ⟨e.rb,e.ro+o,none⟩ E).run P w = .ok () w'/\HR base σ h' w'/\Ext base σ h w σ h' w':=by
 obtain⟨V,W,h3,h4,h5⟩:=hr.store hs he U;refine⟨_,?_,V,W⟩;have:=run_storeCells_cells (P:=P) e.rb (e.ro+o) E 0 w (by simpa using h3) (by simpa using h4) (fun v G=>by
  obtain⟨i,hi⟩:=WD G;obtain⟨x,hx,O⟩:=U.get' hi;exact yS O (by have:=VK.1 h5 x (Uy hx);exact this))
 simpa using this
theorem Hp.store_cell{b o:Nat}{vs:LV}(hs:h.store b o vs=some h'):vs.all isCell=true:=by
 unfold Hp.store at hs
 split at hs
 ·split at hs
  ·rename_i E;simp only[Uw]at E;exact E.2
  ·simp at hs
 ·simp at hs
theorem Gv(hr:HR base σ h w){t:TI}{x x' y E:Value}{b o n:Nat}(V:VRel σ x x')(W:VRel σ y E)(G:x = .pointer (some ⟨b,o,none⟩))(hn:size? P t=some n)
  (O:y.cells.size=n) (hs:h.store b o y.cells.toList=some h'):∃w',(Instr.storeAt t x' E).run P w = .ok () w'/\HR base σ h' w'/\Ext base σ h w σ h' w':=by
 subst G;obtain⟨_,e,he,rfl⟩:=V.ptr_inv;have hu:fR y=false:=by
  cases y <;> first | rfl | skip
  have:=Hp.store_cell hs;simp[Value.cells,isCell]at this
 have dI:=W.cells hu;obtain⟨w',h1,h2,h3⟩:=qV (P:=P) hr hs he dI;refine⟨w',?_,h2,h3⟩;have U:E.cells.size=n:=by rw[<-O];simpa using dI.1.symm
 simp[Instr.storeAt,Instr.sureAddr,storeVar,cT hn,U,h1]
theorem Ew(hr:HR base σ h w){t xt ty:TI}{s s' x x' v:Value}(O:aQ P t xt s x h=some (v,h'))(hs:VRel σ s s')(hx:VRel σ x x'):
  lM P base σ h w ((Builtin.append_ #[t,xt] ty #[s',x']).run P w) v h':=by
 unfold aQ at O
 split at O
 ·rename_i elem hu
  split at O
  ·simp at O
  ·rename_i i d a9 hi hd
   have W:Gf P xt:=⟨d,hd,fun k e=>a9 k (by rw[e])⟩
   split at O
   ·simp at O
   ·rename_i n new ax
    obtain⟨gG,aa,E⟩:=zM (P:=P) hr ax hx;have al:new.length=n * i.size:=by rw[aa.1,E.cells_len]
    split at O
    ·
     rename_i a4
     subst a4;have a5:gG=[]:=VS (by rw[E.cells_len];simp);subst a5
     split at O
     ·rename_i a l c
      split at O
      ·simp at O;obtain⟨rfl,rfl⟩:=O
       cases a with
       | none =>
        obtain⟨rfl,rfl,rfl⟩:=hs.snil_inv;exact lM.same hr .snil (rK hu hi W E (by omega) (by simp) (fun _=>rfl))
       | some a =>
        obtain⟨a',c',e,rfl,_,ba,a6,_⟩:=hs.slice_inv;exact lM.same hr hs (rK hu hi W E (by omega) (fun b hb=>by simp[storeCells]) (fun e=>by simp at e))
      ·simp at O
     ·simp at O
    ·rename_i a4
     split at O
     ·simp at O
     ·rename_i af
      simp only[Vh,decide_eq_true_eq,VL,not_or,WU,decide_eq_false_iff_not,Decidable.not_not]at af;obtain⟨⟨⟨hz,ag⟩,bp⟩,an⟩:=af;obtain⟨z,hz,bf⟩:∃z,i.zero=some z/\z.cells.size=i.size:=by
       simp only[VD]at hz;exact hz
      have ao:∀k,(Builtin.zeroCells z.cells k).size=k * i.size:=fun k=>by rw[size_zeroCells,bf]
      have ap:∀(cap ad k:Nat),ad<=cap->k=ad * i.size->k+(cap - ad) * i.size=cap * i.size:=by
       intro cap ad k h1 h2;rw[h2,<-Vb];congr 1;omega
      split at O
      ·
       simp at O;obtain⟨rfl,rfl⟩:=O;obtain⟨_,_,rfl⟩:=hs.snil_inv;have bg:roomy (0+n) i.bytes=true:=by simpa[JZ]using ag
       have:=nC (P:=P) (w:=w) (ty:=ty) (a:=none) (l:=0) (c:=0) (old:=[]) hu hi hz W E (by omega) bg an (by simp[Builtin.firstCells]);have G:=grownCap_le w (0+n) 0 elem;refine lM.alloc hr (WNew.drew w _) ?_ ?_ (by simp) ?_ this
       ·simp;rw[al];rw[E.cells_len];omega
       ·refine bK.prefix aa ?_ (zs:=(Builtin.zeroCells z.cells (grownCap w (0+n) 0 elem - (0+n))).toList);simp
       ·intro cE he;rw[Nat.zero_add];refine .sopen h.next 0 i.size n n _ _ _ he (Uf _) (by simpa using G) (.inr ⟨rfl,?_⟩);simp only[Nat.zero_add,Array.size_append,List.size_toArray,Ug,VH,Vl,ao,E.cells_len]at G ⊢;exact Nat.le_of_eq (ap _ _ _ G rfl).symm
      ·rename_i b o sp l c
       obtain⟨a',c',e,rfl,he,ba,a6,ha,aq⟩:=hs.slice_inv;simp only at he ha aq;have ah:roomy (l+n) i.bytes=true:=by simpa[JZ]using ag
       split at O
       ·
        rename_i ai
        simp only[VD,Un]at O;obtain⟨h1,dN,rfl,rfl⟩:=O;have ac:a'=⟨e.rb,e.ro+o,none⟩:=by rcases ha with V | V <;> first | omega | exact V
        subst ac;obtain⟨w',k1,k2,k3⟩:=qV (P:=P) hr dN he aa;refine⟨σ,_,w',rK hu hi W E (by omega) (fun b hb=>?_) (fun e=>by simp at e),?_,k2,k3⟩
        ·cases hb
         rw[add_plain];rw[show e.ro+o+l * i.size=e.ro+(o+l * i.size) by omega];exact k1
        ·rcases aq with ⟨rfl,rfl⟩ | ⟨k,rfl,hk⟩
         ·exact .sexact b o (l+n) c e _ he ai (.inr rfl)
         ·exact .sopen b o k (l+n) c c' e _ he ai a6 (by rcases hk with hk | hk <;> first | omega | exact .inr ⟨rfl,hk⟩)
       ·rename_i ai
        split at O
        ·
         rcases aq with ⟨_,rfl⟩ | ⟨k,hk,_⟩
         ·split at O
          ·rename_i ar
           subst ar;simp at O;obtain⟨rfl,rfl⟩:=O;have:=nC (P:=P) (w:=w) (ty:=ty) (a:=some a') (l:=0) (c:=c) (old:=[]) hu hi hz W E (by omega) ah an (by simp[Builtin.firstCells,loadCells,loadCellsFrom]);have G:=grownCap_le w (0+n) c elem;refine lM.alloc hr (WNew.drew w _) ?_ ?_ (by simp) ?_ this
           ·simp;rw[al,E.cells_len];omega
           ·refine bK.prefix aa ?_ (zs:=(Builtin.zeroCells z.cells (grownCap w (0+n) c elem - (0+n))).toList);simp
           ·intro cE he;rw[Nat.zero_add];refine .sopen h.next 0 i.size n n _ _ _ he (Uf _) (by simpa using G) (.inr ⟨rfl,?_⟩);simp only[Nat.zero_add,Array.size_append,List.size_toArray,Ug,VH,Vl,ao,E.cells_len]at G ⊢;exact Nat.le_of_eq (ap _ _ _ G rfl).symm
          ·rename_i ar
           simp only[VD,Un]at O;obtain⟨old,hold,rfl,rfl⟩:=O;have ac:a'=⟨e.rb,e.ro+o,none⟩:=by rcases ha with V | V <;> first | omega | exact V
           subst ac;obtain⟨q1,U,q2,q3,q4⟩:=hr.cellsAt hold he;have hl:=run_loadCells_list (P:=P) w.drew ⟨e.rb,e.ro+o,none⟩ U (fun j v hj=>q4 j v hj);rw[q2]at hl;have:=nC (P:=P) (w:=w) (ty:=ty) (a:=some ⟨e.rb,e.ro+o,none⟩) (l:=l) (c:=c) (old:=U) hu hi hz W E (by omega) ah an (by simp[Builtin.firstCells,hl]);have G:=grownCap_le w (l+n) c elem;refine lM.alloc hr (WNew.drew w _) ?_ ?_ (by simp) ?_ this
           ·simp;rw[al,E.cells_len,q1,q2];omega
           ·refine bK.prefix (q3.append aa) ?_ (zs:=(Builtin.zeroCells z.cells (grownCap w (l+n) c elem - (l+n))).toList);simp
           ·intro cE he;refine .sopen h.next 0 i.size (l+n) (l+n) _ _ _ he (Uf _) G (.inr ⟨rfl,?_⟩);simp only[Nat.zero_add,Array.size_append,List.size_toArray,Ug,ao,E.cells_len,q2];exact Nat.le_of_eq (ap _ _ _ G (by rw[Vb])).symm
         ·simp at hk
        ·rename_i k
         split at O
         ·rename_i bh
          subst bh;simp only[VD,Un]at O;obtain⟨h1,aj,rfl,rfl⟩:=O;rcases aq with ⟨hk,_⟩ | ⟨k,hk,a7⟩
          ·simp at hk
          ·simp at hk;subst hk;have bi:b≠h.next:=by have:=(hr.dom _ _ he).1;omega
           obtain⟨a8,t0,g0,bj,ae⟩:=Hp.extend_spec aj bi;have bk:=ae.cell;by_cases ay:l+n<=c'
           ·
            have ac:a'=⟨e.rb,e.ro+o,none⟩:=by rcases ha with V | V <;> first | omega | exact V
            subst ac;have az:e.ro+o+c' * i.size<=e.rs:=by rcases a7 with V | V <;> first | omega | exact V
            have hmul:(l+n) * i.size<=c' * i.size:=VU _ ay;rw[Vb]at hmul;obtain⟨⟨en,k1,k2,k3⟩,k4,k5⟩:=hr.extend_in aj he aa (by rw[E.cells_len];omega);have dN:=run_storeCells_cells (P:=P) e.rb (e.ro+(o+l * i.size)) gG 0 w (by simpa using k4) (by simpa using k5) (fun v bl=>by
             obtain⟨j,hj⟩:=WD bl;obtain⟨y,hy,bm⟩:=aa.get' hj;exact yS bm (VK.1 bk y (Uy hy)))
            refine⟨_,_,_,rK hu hi W E ay (fun bb bn=>?_) (fun e=>by simp at e),?_,k1,k2⟩
            ·cases bn
             rw[add_plain,show e.ro+o+l * i.size=e.ro+(o+l * i.size) by omega];simpa using dN
            ·refine .sopen h.next 0 i.size (l+n) (l+n) c' en _ (by simp[Sg.put]) (Uf _) ay (.inr ?_);subst k3;exact⟨by simp,by simpa using az⟩
           ·
            have bo:c' < l+n:=by omega
            obtain⟨⟨c0,bq,br,q1,q2,q3,q4,q5⟩,q6⟩:=hr.cell b e a8 t0 (some g0) he ae.old ae.live;have hole:=ae.e_le;have dI:h.cellsAt b o (l * i.size)=some ((a8.drop o).take (l * i.size)):=by
             unfold Hp.cellsAt;rw[ae.old];simp only[ae.live,Bool.true_and];rw[if_pos (by simpa using hole)]
            obtain⟨r1,U,r2,r3,r4⟩:=hr.cellsAt dI he;have au:(Builtin.firstCells i.size l (.slice (some a') l c')).run P w.drew = .ok U.toArray w.drew:=by
             by_cases ar:l=0
             ·subst ar;have:U=[]:=VS (by rw[r2];simp);subst this;simp[Builtin.firstCells,loadCells,loadCellsFrom]
             ·have ac:a'=⟨e.rb,e.ro+o,none⟩:=by rcases ha with V | V <;> first | omega | exact V
              subst ac;have:=run_loadCells_list (P:=P) w.drew ⟨e.rb,e.ro+o,none⟩ U (fun j v hj=>r4 j v hj);rw[r2]at this;simp[Builtin.firstCells,this]
            have:=nC (P:=P) (w:=w) (ty:=ty) (a:=some a') (l:=l) (c:=c') (old:=U) hu hi hz W E bo ah an au;have G:=grownCap_le w (l+n) c' elem;have ak:o+l * i.size - o=l * i.size:=by omega
            have av:((U++gG).toArray++Builtin.zeroCells z.cells (grownCap w (l+n) c' elem - (l+n))).size=grownCap w (l+n) c' elem * i.size:=by
             simp only[Array.size_append,List.size_toArray,Ug,ao,E.cells_len,r2];exact ap _ _ _ G (by rw[Vb])
            obtain⟨en,k1,k2,k3⟩:=hr.extend_new aj he aa (WNew.drew w (.cells ((U++gG).toArray++Builtin.zeroCells z.cells (grownCap w (l+n) c' elem - (l+n))) elem)) (by simp)
             (fun j hj v O=>by
              rw[ak]at hj;have a0:j < U.length:=by rw[r2];exact hj
              have:=r4 j _ (Uh a0);rw[add_plain]at this;rw[this]at O;cases O;rw[Array.getElem?_append_left (by simp;omega)];simp[VQ a0])
             (fun j v O=>by
              have a0:=(Us.1 O).1;rw[ak,Array.getElem?_append_left (by simp;omega)];simp only[List.getElem?_toArray];rw[VN (by omega),r2,show l * i.size+j - l * i.size=j by omega];exact O)
             (by rw[av,ak,al,<-Vb];exact VU _ G)
            refine⟨_,.slice (some ⟨w.heap.size,0,none⟩) (l+n) (grownCap w (l+n) c' elem),_,by simpa using this,?_,k1,k2⟩
            ·subst k3;refine .sopen h.next 0 i.size (l+n) (l+n) _ ⟨w.heap.size,0,((U++gG).toArray++Builtin.zeroCells z.cells (grownCap w (l+n) c' elem - (l+n))).size⟩ _ (by unfold Sg.put;rw[if_pos rfl]) (Uf _) G (.inr ⟨rfl,?_⟩);simp only[Nat.zero_add];exact Nat.le_of_eq av.symm
         ·simp at O
      ·simp at O
  ·simp at O
 ·simp at O
theorem KX(hr:HR base σ h w){t xt ty:TI}{d d' x x' v:Value}(E:qO P t d x h=some (v,h'))(hd:VRel σ d d')(hx:VRel σ x x'){ts:Array TI}(ht:ts[0]? = some t):
  lM P base σ h w ((Builtin.copy_ ts ty #[d',x']).run P w) v h':=by
 unfold qO at E
 split at E
 ·rename_i elem hu
  split at E
  ·rename_i size a l c hs
   split at E
   ·simp at E
   ·rename_i n new O
    obtain⟨gG,aa,G⟩:=zM (P:=P) hr O hx;have V:=G.cells w rfl (Nat.min n l) (Nat.min_le_left _ _);have hlen:=G.len w rfl;simp only at E
    split at E
    ·rename_i hm
     simp at E;obtain⟨rfl,rfl⟩:=E;have U:Nat.min n l=0:=hm;rw[U]at V;simp at V
     cases a with
     | none =>
      obtain⟨rfl,rfl,rfl⟩:=hd.snil_inv;refine lM.same hr (.int .i64 0) ?_;simp[Builtin.copy_,ht,run_underlying hu,hlen,cT hs,V,goInt,U]
     | some a =>
      obtain⟨a',c',e,rfl,_⟩:=hd.slice_inv;refine lM.same hr (.int .i64 0) ?_;simp[Builtin.copy_,ht,run_underlying hu,hlen,cT hs,goInt,U,V,storeCells]
    ·rename_i hm
     split at E
     ·rename_i b o sp
      simp only[VD,Un]at E;obtain⟨h1,dN,rfl,rfl⟩:=E;obtain⟨a',c',e,rfl,he,ae,af,ha,_⟩:=hd.slice_inv;simp only at he ha;have ag:0 < l:=Nat.pos_of_ne_zero fun h0=>hm (by rw[h0];exact Nat.min_zero n);have ac:a'=⟨e.rb,e.ro+o,none⟩:=by rcases ha with W | W <;> first | omega | exact W
      subst ac;obtain⟨w',k1,k2,k3⟩:=qV (P:=P) hr dN he (aa.take _);refine⟨σ,.int .i64 (min n l:Nat),w',?_,.int _ _,k2,k3⟩;have ad:(Builtin.firstCells size (min n l) x').run P w = .ok (gG.take (min n l * size)).toArray w:=V;simp[Builtin.copy_,ht,run_underlying hu,hlen,cT hs,goInt,ad,k1]
     ·simp at E
  ·simp at E
 ·simp at E
theorem EG(k:Nat)(w:World):(askRoom k).run P w = .ok () w:=by
 unfold askRoom;split <;> simp[mark,Sem.run]
theorem wrap_i64{n:Int}(h0:0<=n)(E:n<=IntKind.i64.max):IntKind.i64.wrap n=n:=by
 simp only[IntKind.max,IntKind.signed,IntKind.bits,if_true]at E;have e:n % 2 ^ 64=n:=Int.emod_eq_of_lt h0 (by omega);simp only[IntKind.wrap,IntKind.bits,IntKind.signed,Bool.true_and,e,decide_eq_true_eq,Nat.add_one_sub_one];rw[if_neg (by omega)]
theorem zO(hr:HR base σ h w){t:TI}{l l' c c' v:Value}(E:oZ P t l c h=some (v,h'))(hl:VRel σ l l')(hc:VRel σ c c'):
  lM P base σ h w ((Instr.makeSlice t l' c').run P w) v h':=by
 unfold oZ at E
 split at E
 ·rename_i elem k1 len k2 cap hu
  obtain rfl:=hl.int_inv;obtain rfl:=hc.int_inv
  split at E
  ·rename_i i hi
   split at E
   ·rename_i V
    obtain⟨h0,h1,h2,h3⟩:=V
    split at E
    ·rename_i z hz
     split at E
     ·rename_i aa
      simp only[Uw,decide_eq_true_eq,VL,decide_eq_false_iff_not]at aa;obtain⟨⟨W,ae⟩,af⟩:=aa;simp at E;obtain⟨rfl,rfl⟩:=E;have G:∀w:World,(sizeOf elem).run P w = .ok i.size w:=fun w=>cT (by simp[size?,hi]) w;have ac:∀w:World,(typeInfo elem).run P w = .ok i w:=fun w=>run_typeInfo w hi;have ag:∀w:World,(zeroValue elem).run P w = .ok z w:=fun w=>gO (by simp[zero?,hi,hz]) w;have e1:IntKind.i64.wrap len=len:=wrap_i64 h0 (by omega);have e2:IntKind.i64.wrap cap=cap:=wrap_i64 (by omega) h3;have ad:¬((cap < 0\/281474976710656 < (i.bytes:Int) * cap)\/len < 0\/cap < len):=by omega
      have U:=lF z.cells cap.toNat;rw[W]at U;refine lM.alloc (w':=w.alloc (.cells ((Array.range (cap.toNat * i.size)).map fun j=>(if cap.toNat * i.size=0 then #[] else z.cells)[j % (if cap.toNat * i.size=0 then #[] else z.cells).size]!) elem)) hr (WNew.alloc w _) ?_ ?_ (by simp) ?_
       (v':=.slice (some ⟨w.heap.size,0,none⟩) len.toNat cap.toNat) ?_
      ·rw[AI];simp[W]
      ·by_cases O:cap.toNat * i.size=0
       ·have:cap.toNat=0:=by
         rcases Nat.mul_eq_zero.1 O with h | h
         ·exact h
         ·exact absurd h ae
        rw[this];simp[Cn.zeroCells]
       ·simp only[O,if_false];refine bK.rel ?_;rw[W,U];exact bK.refl_of fun v E=>pU af v (nE E)
      ·intro cE he;exact .sexact h.next 0 len.toNat cap.toNat _ _ he (by omega) (.inr (by simp))
      ·by_cases O:cap.toNat * i.size=0
       ·simp[Instr.makeSlice,run_underlying hu,asInt,asIntOf,ac,e1,e2,ad,EG,G,O,newRow];intro hh;omega
       ·simp[Instr.makeSlice,run_underlying hu,asInt,asIntOf,ac,e1,e2,ad,EG,G,O,ag,newRow];intro hh;omega
     ·simp at E
    ·simp at E
   ·simp at E
  ·simp at E
 ·simp at E
theorem HE(hr:HR base σ h w){t ty:TI}{x x' v:Value}(E:Cm P t x h=some (v,h'))(hx:VRel σ x x'){ts:Array TI}(U:ts[0]? = some t):
  lM P base σ h w ((Builtin.clear_ ts ty #[x']).run P w) v h':=by
 unfold Cm at E
 split at E
 ·rename_i elem n c hu
  obtain⟨rfl,rfl,rfl⟩:=hx.snil_inv;simp at E;obtain⟨rfl,rfl⟩:=E;refine lM.same hr (VRel.undef σ) ?_;simp[Builtin.clear_,U,run_underlying hu,undef]
 ·rename_i elem b o sp n c hu
  obtain⟨a',c',e,rfl,he,aa,ac,ha,_⟩:=hx.slice_inv;simp only at he ha
  split at E
  ·rename_i hn
   subst hn;simp at E;obtain⟨rfl,rfl⟩:=E;refine lM.same hr (VRel.undef σ) ?_;simp[Builtin.clear_,U,run_underlying hu,undef]
  ·rename_i hn
   split at E
   ·rename_i z hz
    split at E
    ·rename_i V
     simp only[VD,Un]at E;obtain⟨h1,dN,rfl,rfl⟩:=E;have W:a'=⟨e.rb,e.ro+o,none⟩:=by rcases ha with G | G <;> first | omega | exact G
     subst W;obtain⟨w',k1,k2,k3⟩:=qV (P:=P) hr dN he (bK.refl_of fun v E=>pU V v (nE E));have O:(Builtin.zeroCells z.cells n).toList=Cn.zeroCells z.cells.toList n:=lF z.cells n;refine⟨σ,undef,w',?_,VRel.undef σ,k2,k3⟩;obtain⟨n,rfl⟩:∃m,n=m+1:=⟨n - 1,by omega⟩;simp[Builtin.clear_,U,run_underlying hu,gO hz,O,k1,undef]
    ·simp at E
   ·simp at E
 ·simp at E
theorem Ke(hr:HR base σ h w){e:TI}{z:Value}(E:zero? P e=some z)(hp:plainV 100 z=true):
  lM P base σ h w ((Instr.alloc e true (.tuple #[])).run P w) (ptr h.next 0) (h.alloc z.cells.toList e):=by
 have G:bK σ z.cells.toList z.cells.toList:=sX hp;refine lM.alloc (w':=w.alloc (.cells z.cells e)) hr (WNew.alloc w _) (by simp) G.rel (by simp) (v':=.pointer (some ⟨w.heap.size,0,none⟩)) ?_ ?_
 ·intro cE he;exact .ptr h.next 0 _ he
 ·simp[Instr.alloc,gO E,newVar,newRow]
def Ta(σ:Sg)(c:Option (LV×TI))(r:Obj):Prop :=
 match c with
 | some (cs,_)=>∃cc el,r = .cells cc el/\bK σ cs cc.toList
 | none=>r = .map #[] 0
def mV:Obj->Nat
 | .cells c _ _=>c.size
 | _=>0
theorem EF(w:World){tm:LV}{a:Act}(ht:eM σ tm a.tmps)(o:Oper){m:Option (LV×TI)×(Nat->Value)}(hm:mkOf P tm o.op=some m):
  ∃(v':Value) (r:Obj),(execOp a.eval o).run P w = .ok (.value v') (w.alloc r)/\Ta σ m.1 r/\∀(id:Nat) (cE:Sg),cE id=some ⟨w.heap.size,0,mV r⟩->VRel cE (m.2 id) v':=by
 obtain⟨dst,op,ty,pos,after,guard⟩:=o;have ev:=fun x=>kX ht x;unfold mkOf at hm;simp only at hm
 split at hm
 ·rename_i e x
  split at hm
  ·simp at hm
  ·rename_i hu
   simp at hm;subst hm;have hc:=(ev x).cells (by simpa using hu);exact⟨.pointer (some ⟨w.heap.size,0,none⟩),.cells (a.eval x).cells e,by simp[execOp,Instr.box,newVar,newRow],⟨_,_,rfl,hc⟩,fun id cE he=>.ptr id 0 _ he⟩
 ·rename_i t len parts
  split at hm
  ·rename_i e hu
   split at hm
   ·rename_i i hi
    split at hm
    ·rename_i z hz
     split at hm
     ·simp at hm
     ·rename_i hc
      simp only[Vh,decide_eq_true_eq,not_or,VL,WU,ne_eq,Decidable.not_not]at hc;obtain⟨⟨⟨aa,V⟩,ac⟩,ad⟩:=hc;simp only[VD]at hm;obtain⟨cs,hf,rfl⟩:=hm;have G:(sizeOf e).run P w = .ok i.size w:=cT (by simp[size?,hi]) w;have ae:(zeroValue e).run P w = .ok z w:=gO (by simp[zero?,hi,hz]) w;have O:=lF z.cells len;rw[V]at O;have af:bK σ (Cn.zeroCells z.cells.toList len) (((Array.range (len * i.size)).map fun j=>(if len * i.size=0 then #[] else z.cells)[j % (if len * i.size=0 then #[] else z.cells).size]!)).toList:=by
       by_cases E:len * i.size=0
       ·have:len=0:=by
         rcases Nat.mul_eq_zero.1 E with h | h
         ·exact h
         ·exact absurd h ac
        rw[this];simp[Cn.zeroCells];exact bK.nil σ
       ·simp only[E,if_false];rw[V,O];exact bK.refl_of fun v hv=>pU ad v (nE hv)
      obtain⟨l',U,k2⟩:=tX hf af (zJ ht parts.toList);refine⟨.slice (some ⟨w.heap.size,0,none⟩) len len,.cells l' e,?_,⟨_,_,rfl,k2⟩,fun id cE he=>.sexact id 0 len len _ _ he (Uf _) (.inr (by simp))⟩;have W:¬(16777216 < len * i.size):=by simpa using aa
      have:(Instr.buildSlice t len (parts.map fun(j,x)=>(j,a.eval x))).run P w = .ok (.slice (some ⟨w.heap.size,0,none⟩) len len) (w.alloc (.cells l' e)):=by
       by_cases E:len * i.size=0
       ·simp only[E,if_true]at U;simp[Instr.buildSlice,run_underlying hu,G,E,newRow]
        try simp at U
        simp[U]
       ·simp only[E,if_false]at U;simp[Instr.buildSlice,run_underlying hu,G,W,E,ae,newRow]
        try simp at U
        simp[U]
      simp[execOp,this]
    ·simp at hm
   ·simp at hm
  ·simp at hm
 ·simp at hm;subst hm;exact⟨.map (some w.heap.size),.map #[] 0,by simp[execOp,Instr.makeMap],rfl,fun id cE he=>.map id _ he⟩
 ·simp at hm
theorem MY(hr:HR base σ h w){tm:LV}{a:Act}(V:eM σ tm a.tmps)(o:Oper){v:Value}(G:tM P tm o.op h=some (v,h')):
  ∃cE v' w',(execOp a.eval o).run P w = .ok (.value v') w'/\VRel cE v v'/\HR base cE h' w'/\Ext base σ h w cE h' w':=by
 unfold tM at G;simp only[VD,Un]at G;obtain⟨m,hm,rfl,rfl⟩:=G;obtain⟨v',r,O,E,U⟩:=EF (P:=P) w V o hm;obtain⟨c,vf⟩:=m
 cases c with
 | some ce =>
  obtain⟨cs,e⟩:=ce;obtain⟨W,el,rfl,E⟩:=E;have hlen:=E.1;obtain⟨g1,g2,g3⟩:=hr.alloc (t:=e) (WNew.alloc w (.cells W el)) (by simp at hlen;omega) E.rel (by simp);exact⟨_,v',_,O,U _ _ g3,g1,g2⟩
 | none =>
  have E:r = .map #[] 0:=E;subst E;obtain⟨g1,g2,g3⟩:=hr.newOth (o:=.map [] 0) (r:=.map #[] 0) rfl (WNew.push w _) ⟨rfl,.nil⟩;exact⟨_,v',_,O,U _ _ g3,g1,g2⟩
theorem PV(hr:HR base σ h w){tm:LV}{a:Act}(ht:eM σ tm a.tmps)(o:Oper){v:Value}(E:AX P tm o.op h=some (v,h')):
  UY P base σ h w ((execOp a.eval o).run P w) v h':=by
 obtain⟨dst,op,ty,pos,after,guard⟩:=o;have ev:=fun x=>kX ht x;unfold AX at E;simp only at E
 split at E
 ·rename_i e
  split at E
  ·rename_i z hz
   split at E
   ·rename_i hp
    simp at E;obtain⟨rfl,rfl⟩:=E;have:=(Ke (P:=P) hr hz hp).eff;simpa[execOp]using this
   ·simp at E
  ·simp at E
 ·rename_i t x y
  split at E
  ·rename_i b o n hx hn
   split at E
   ·rename_i ag
    simp only[VD,Un]at E;obtain⟨h1,dN,rfl,rfl⟩:=E;obtain⟨w',O,U,V⟩:=Gv (P:=P) hr (ev x) (ev y) hx hn ag dN;exact⟨σ,.skip,undef,w',by simp[execOp,O],.inr ⟨rfl,rfl⟩,VRel.undef σ,U,V⟩
   ·simp at E
  ·simp at E
 ·rename_i t l c
  have:=(zO (P:=P) hr E (ev l) (ev c)).eff;simpa[execOp]using this
 ·rename_i t r
  split at E
  ·simp at E;obtain⟨rfl,rfl⟩:=E;obtain⟨cE,v',w',h1,h2,h3,h4⟩:=wC (P:=P) hr t (r:=none) (.inl rfl);exact⟨cE,.value v',v',w',by simp[execOp,h1],.inl rfl,h2,h3,h4⟩
  ·rename_i x
   split at E
   ·rename_i a0 b0 k n hu W
    simp at E;obtain⟨rfl,rfl⟩:=E;have hx:=ev x;rw[W]at hx;obtain⟨cE,v',w',h1,h2,h3,h4⟩:=wC (P:=P) hr t (r:=some (a.eval x)) (.inr ⟨⟨k,n,by rw[hx.int_inv]⟩,a0,b0,hu⟩);exact⟨cE,.value v',v',w',by simp[execOp,h1],.inl rfl,h2,h3,h4⟩
   ·simp at E
 ·rename_i t m k x
  simp only[VD,Un]at E;obtain⟨h1,dN,rfl,rfl⟩:=E;obtain⟨w',O,U,V⟩:=qN (P:=P) hr dN (ev m) (ev k) (ev x);exact⟨σ,.skip,undef,w',by simp[execOp,O],.inr ⟨rfl,rfl⟩,VRel.undef σ,U,V⟩
 ·rename_i t m k x
  simp only[VD,Un]at E;obtain⟨h1,dN,rfl,rfl⟩:=E;obtain⟨w',O,U,V⟩:=qN (P:=P) hr dN (ev m) (ev k) (ev x);exact⟨σ,.skip,undef,w',by simp[execOp,O],.inr ⟨rfl,rfl⟩,VRel.undef σ,U,V⟩
 ·rename_i t m k
  obtain⟨v',w',O,U,V,k4⟩:=AY (P:=P) hr E (ev m) (ev k);exact⟨σ,.value v',v',w',by simp[execOp,O],.inl rfl,U,V,k4⟩
 ·rename_i t m s x
  simp only[VD,Un]at E;obtain⟨h1,dN,rfl,rfl⟩:=E;obtain⟨w',O,U,V⟩:=wV (P:=P) (t:=t) hr dN (ev m) (ev s) (ev x);exact⟨σ,.skip,undef,w',by simp[execOp,O],.inr ⟨rfl,rfl⟩,VRel.undef σ,U,V⟩
 ·rename_i t x
  obtain⟨cE,v',w',O,U,V,k4⟩:=Gx (P:=P) hr E (ev x);exact⟨cE,.value v',v',w',by simp[execOp,O],.inl rfl,U,V,k4⟩
 ·rename_i args G
  split at E
  ·rename_i t ts m k e1 e2
   have aa:G[0]? = some t:=by rw[<-VR,e1];rfl
   have W:(args.map a.eval)[0]? = some (a.eval m):=by rw[Wh,<-VR,e2];rfl
   have ad:(args.map a.eval)[1]? = some (a.eval k):=by rw[Wh,<-VR,e2];rfl
   obtain⟨v',w',O,U,V,k4⟩:=Et (P:=P) (ty:=ty) hr aa W ad E (ev m) (ev k);exact⟨σ,.value v',v',w',by simp[execOp,resolve,invoke,builtin,O],.inl rfl,U,V,k4⟩
  ·simp at E
 ·rename_i src dst x
  have hx:=ev x
  split at E
  ·rename_i e s hs hd W
   rw[W]at hx;obtain ad:=hx.string_inv
   split at E
   ·rename_i he
    simp at E;obtain⟨rfl,rfl⟩:=E
    ·have ae:=run_bytes_of_string (P:=P) w src dst e s hs hd he;have ac:=grownCap_le w s.size 0 e;have af:(bytesRow s (grownCap w s.size 0 e)).size=grownCap w s.size 0 e:=by
      simp[bytesRow];omega
     have:lM P base σ h w ((convert src dst (a.eval x)).run P w) (.slice (some ⟨h.next,0,some 1⟩) s.size s.size) (h.alloc (s.data.toList.map fun b=>.int .u8 b.toNat) e):=by
      rw[ad];refine lM.alloc hr (WNew.drew w _) ?_ ?_ ?_ ?_ ae
      ·rw[af];simpa using ac
      ·refine bK.prefix (ys:=s.data.toList.map fun b=>.int .u8 b.toNat) (zs:=(Array.replicate (grownCap w s.size 0 e - s.size) (Value.int .u8 0)).toList) (bK.refl_of (by simp;intro b _;exact .int _ _)) ?_;simp[bytesRow]
      ·intro j hj;simp;omega
      ·intro cE he;refine .sopen h.next 0 1 s.size s.size _ _ _ he (Uf _) ac (.inr ⟨rfl,?_⟩);simp only[Nat.zero_add,Ve];rw[af];exact Uf _
     have:=this.eff;simpa[execOp]using this
   ·simp at E
  ·simp at E
 ·rename_i args G
  split at E
  ·rename_i t xt s x e1 e2
   have ha:args.map a.eval = #[a.eval s,a.eval x]:=by
    apply Array.ext';simp[e2]
   have ah:G = #[t,xt]:=by apply Array.ext';simp[e1]
   have:=(Ew (P:=P) (ty:=ty) hr E (ev s) (ev x)).eff;simpa[execOp,resolve,invoke,builtin,ha,ah]using this
  ·simp at E
 ·rename_i args G
  split at E
  ·rename_i t ts d x e1 e2
   have ha:args.map a.eval = #[a.eval d,a.eval x]:=by
    apply Array.ext';simp[e2]
   have aa:G[0]? = some t:=by rw[<-VR,e1];rfl
   have:=(KX (P:=P) (xt:=t) (ty:=ty) hr E (ev d) (ev x) aa).eff;simpa[execOp,resolve,invoke,builtin,ha]using this
  ·simp at E
 ·rename_i args G
  split at E
  ·rename_i t ts x e1 e2
   have ha:args.map a.eval = #[a.eval x]:=by
    apply Array.ext';simp[e2]
   have aa:G[0]? = some t:=by rw[<-VR,e1];rfl
   have:=(HE (P:=P) (ty:=ty) hr E (ev x) aa).eff;simpa[execOp,resolve,invoke,builtin,ha]using this
  ·simp at E
 ·simp at E
theorem QB(hr:HR base σ h w){tm:LV}{a:Act}(U:eM σ tm a.tmps)(o:Oper){E:List (Value×Hp)}(O:OE tm o.op h=some E):
  ∃v h' v' w',(v,h')∈E/\(execOp a.eval o).run P w = .ok (.value v') w'/\VRel σ v v'/\HR base σ h' w'/\Ext base σ h w σ h' w':=by
 obtain⟨dst,op,ty,pos,after,guard⟩:=o;unfold OE at O
 split at O
 ·rename_i it G
  simp only at G;subst G;obtain⟨v,h',v',w',V,W,h3⟩:=KV (P:=P) (ty:=ty) hr O (kX U it);exact⟨v,h',v',w',V,by simp[execOp,W],h3⟩
 ·simp at O
end
end Go.Cn
