/- Joined: CnHn. -/
import Derived.Test.YtmapagggnigfpaaGreatDn02
set_option linter.unusedVariables false
set_option linter.unusedSimpArgs false
namespace Go.Cn
section
variable {P:Program} {σ:Sg} {base:Nat} {h h':Hp} {w:World}
theorem cA{r:Nat}{o:Obj}(hb:w.heap[r]? = some o)(E:Obj.rowOf o=false):(getObj r).run P w = .ok o w:=by
 cases o <;> simp_all[getObj,Sem.run,Obj.rowOf]
theorem dW{r:Nat}{o:Obj}(o':Obj)(hb:w.heap[r]? = some o)(E:Obj.rowOf o=false):(setObj r o').run P w = .ok () {w with heap:=w.heap.setIfInBounds r o'}:=by
 cases o <;> simp_all[setObj,Sem.run,Obj.rowOf]
theorem HR.mapAt(hr:HR base σ h w){b:Nat}{e:En}{es:List MapEntry}{c:Nat}(he:σ b=some e)(O:h.ob b=some (.map es c)):
  ∃E,w.heap[e.rb]? = some (.map E c)/\ERel σ es E.toList:=by
 obtain⟨_,_,⟨r,U,G⟩,_⟩:=hr.oth b e _ he O rfl;unfold fY at G
 split at G <;> first | (exact G.elim) | skip
 ·rename_i o r V c0 E c' e1
  cases e1
  obtain⟨rfl,W⟩:=G;exact⟨E,U,W⟩
 ·rename_i e1;cases e1
 ·rename_i e1;cases e1
theorem Au(hr:HR base σ h w){x x':Value}{es:List MapEntry}(hm:mapOf h x=some es)(O:VRel σ x x'):
  ∃E:Array MapEntry,ERel σ es E.toList/\(x' = .map none/\E = #[]\/∃r c,x' = .map (some r)/\w.heap[r]? = some (.map E c)):=by
 unfold mapOf at hm
 split at hm
 ·obtain rfl:=O.mnil_inv;simp at hm;subst hm;exact⟨#[],.nil,.inl ⟨rfl,rfl⟩⟩
 ·split at hm
  ·rename_i b _ U c0 G
   simp at hm;subst hm;obtain⟨e,he,rfl⟩:=O.map_inv;obtain⟨E,V,W⟩:=hr.mapAt he G;exact⟨E,W,.inr ⟨_,_,rfl,V⟩⟩
  ·simp at hm
 ·simp at hm
theorem VRel.pair{v v':Value}{b:Bool}(O:VRel σ v v'):VRel σ (.tuple #[v,.bool b]) (.tuple #[v',.bool b]):=by
 refine .tuple _ _ rfl (by simp) ?_;intro i x y E G
 match i with
 | 0=>simp at E G;subst E;subst G;exact O
 | 1=>simp at E G;subst E;subst G;exact .bool _
 | n+2=>simp at E
theorem Ep(hr:HR base σ h w){t:TI}{x x' ix G v:Value}{ok:Bool}(hl:dY P t x ix ok h=some v)(hx:VRel σ x x')(hi:VRel σ ix G):
  ∃v',(Instr.lookup t x' G ok).run P w = .ok v' w/\VRel σ v v':=by
 unfold dY at hl
 split at hl
 ·rename_i kt et hu
  split at hl
  ·simp at hl
  ·rename_i hk
   simp only[VL,WU]at hk
   split at hl
   ·simp at hl
   ·rename_i es hm
    obtain⟨U,he,aa⟩:=Au hr hm hx;have V:(Instr.checkKey U.isEmpty 10000 kt G).run P w = .ok () w:=jK (P:=P) w hk hi U.isEmpty 9998;have E:∀r',(Instr.findKey kt G U.toList).run P w = .ok r' w->(Instr.lookup t x' G ok).run P w=(do
      let (v,b) <-match r' with
       | some (_,v)=>pure (v,true)
       | none=>pure (<-zeroValue et,false)
      pure (if ok then .tuple #[v,.bool b] else v):Sem Value).run P w:=by
     intro r' O;rcases aa with ⟨rfl,rfl⟩ | ⟨r,c,rfl,h1⟩
     ·unfold Instr.lookup;simp only[Sem.run_bind,run_underlying hu,Result.andThen_ok,Sem.run_pure,V,O]
      cases r' <;> rfl
     ·unfold Instr.lookup;simp only[Sem.run_bind,run_underlying hu,Result.andThen_ok,Sem.run_pure,cA h1 rfl,V,O]
      cases r' <;> rfl
    split at hl
    ·rename_i r i u hf
     simp at hl;subst hl;obtain⟨r',O,q2⟩:=iV w hi he hf
     cases r' with
     | none=>exact q2.elim
     | some ju =>
      obtain⟨j,u'⟩:=ju;obtain⟨rfl,W⟩:=q2
      cases ok with
      | true=>exact⟨.tuple #[u',.bool true],by rw[E _ O];simp,W.pair⟩
      | false=>exact⟨u',by rw[E _ O];simp,W⟩
    ·rename_i hf
     obtain⟨r',O,q2⟩:=iV w hi he hf
     cases r' with
     | some ju=>exact q2.elim
     | none =>
      split at hl
      ·rename_i z hz
       split at hl
       ·rename_i hp
        simp at hl;subst hl;have W:=lZ σ 100 z hp
        cases ok with
        | true=>exact⟨.tuple #[z,.bool false],by rw[E _ O];simp[gO hz],W.pair⟩
        | false=>exact⟨z,by rw[E _ O];simp[gO hz],W⟩
       ·simp at hl
      ·simp at hl
    ·simp at hl
 ·simp at hl
theorem Es(hr:HR base σ h w){O:Array TI}{t ty:TI}{x x':Value}{xs:AV}{es:List MapEntry}(G:O[0]? = some t)(E:xs[0]? = some x')(hl:oA P O=true)(hm:mapOf h x=some es)(V:VRel σ x x'):
  (Builtin.len_ O ty xs).run P w = .ok (.int .i64 es.length) w:=by
 have hu:∃k e,P.underlying t=some (.map k e):=by
  unfold oA at hl
  split at hl
  ·rename_i W l he
   have:W=t:=by rw[<-VR,he]at G;simpa using G
   subst this
   split at hl
   ·rename_i k e hu;exact⟨k,e,hu⟩
   ·simp at hl
  ·simp at hl
 obtain⟨k,e,hu⟩:=hu;obtain⟨aa,he,U⟩:=Au hr hm V;have hlen:=he.length;rcases U with ⟨rfl,rfl⟩ | ⟨r,c,rfl,h1⟩
 ·simp at hlen;simp[Builtin.len_,G,E,run_underlying hu,goInt,hlen]
 ·simp[Builtin.len_,G,E,run_underlying hu,cA h1 rfl,goInt,hlen]
theorem HR.iterAt(hr:HR base σ h w){b:Nat}{e:En}{m:ON}{since st:Nat}{seen:LN}(he:σ b=some e)(U:h.ob b=some (.iter m since seen st)):
  ∃G E,w.heap[e.rb]? = some (.mapIter G since E st)/\e.ro=0/\E.toList=seen/\(match (generalizing:=false) m with
   | none=>G=none
   | some b=>∃e,σ b=some e/\G=some e.rb):=by
 obtain⟨_,h0,⟨r,V,O⟩,_⟩:=hr.oth b e _ he U rfl;unfold fY at O
 split at O <;> first | (exact O.elim) | skip
 ·rename_i e1;cases e1
 ·rename_i o r m0 s0 n0 t0 G s' W t' e1
  cases e1
  obtain⟨rfl,rfl,h3,h4⟩:=O;exact⟨G,W,V,h0,h3,h4⟩
 ·rename_i e1;cases e1
theorem HR.loopAt(hr:HR base σ h w){b:Nat}{e:En}{r:Lp}(he:σ b=some e)(G:h.ob b=some (.loop r)):
  ∃r',w.heap[e.rb]? = some (.loop r')/\e.ro=0/\r'.state=r.state/\r'.pending=r.pending/\eM σ r.tm r'.tmps/\r'.params.toList=r.params/\r'.assign=r.assign/\r'.body=r.body:=by
 obtain⟨_,h0,⟨U,O,E⟩,_⟩:=hr.oth b e _ he G rfl;unfold fY at E
 split at E <;> first | (exact E.elim) | skip
 ·rename_i e1;cases e1
 ·rename_i e1;cases e1
 ·rename_i o r r0 r' e1
  cases e1
  exact⟨r',O,h0,E⟩
theorem VRel.two{v v' u O:Value}(U:VRel σ v v')(hu:VRel σ u O):VRel σ (.tuple #[v,u]) (.tuple #[v',O]):=by
 refine .tuple _ _ rfl (by simp) ?_;intro i x y E G
 match i with
 | 0=>simp at E G;subst E;subst G;exact U
 | 1=>simp at E G;subst E;subst G;exact hu
 | n+2=>simp at E
theorem VRel.three{v v' u O t U:Value}(V:VRel σ v v')(hu:VRel σ u O)(W:VRel σ t U):VRel σ (.tuple #[v,u,t]) (.tuple #[v',O,U]):=by
 refine .tuple _ _ rfl (by simp) ?_;intro i x y E G
 match i with
 | 0=>simp at E G;subst E;subst G;exact V
 | 1=>simp at E G;subst E;subst G;exact hu
 | 2=>simp at E G;subst E;subst G;exact W
 | n+3=>simp at E
theorem HD(hr:HR base σ h w){x x' v:Value}(hl:jV x h=some v)(U:VRel σ x x'):∃v',(Instr.entry x').run P w = .ok v' w/\VRel σ v v':=by
 unfold jV at hl
 split at hl
 ·split at hl
  ·rename_i b m s0 seen st V
   obtain⟨_,e,he,rfl⟩:=U.ptr_inv;obtain⟨m',G,h1,h2,h3,h4⟩:=hr.iterAt he V;obtain⟨em,W,rfl⟩:=h4
   split at hl
   ·rename_i E es clock hs hm
    obtain⟨aa,h5,h6⟩:=hr.mapAt W hm
    split at hl
    ·simp at hl
    ·rename_i hc
     simp only[ne_eq,Decidable.not_not]at hc;simp only[VD]at hl;obtain⟨x,U,rfl⟩:=hl;obtain⟨y,k1,k2,k3,k4⟩:=h6.find (p:=fun n=>n==E) U;have O:G.back? = some E:=by rw[Array.back?_eq_getElem?,<-VR,<-VE,h3,<-List.getLast?_eq_getElem?,hs]
     refine⟨.tuple #[y.key,y.val],?_,k3.two k4⟩;have ac:aa.find? (fun e=>e.born==E)=some y:=by rw[<-Array.find?_toList];exact k1
     simp[Instr.entry,h2,cA h1 rfl,cA h5 rfl,O,hc,ac]
   ·simp at hl
  ·simp at hl
 ·simp at hl
theorem HR.setMap(hr:HR base σ h w){b:Nat}{e:En}{es fs:List MapEntry}{c d:Nat}{E:Array MapEntry}(he:σ b=some e)(G:h.ob b=some (.map es c))(O:ERel σ fs E.toList):
  HR base σ (h.setOb b (.map fs d)) {w with heap:=w.heap.setIfInBounds e.rb (.map E d)}/\Ext base σ h w σ (h.setOb b (.map fs d)) {w with heap:=w.heap.setIfInBounds e.rb (.map E d)} :=
 hr.setOth he G rfl rfl ⟨rfl,O⟩
theorem wF{es:List MapEntry}{E:List MapEntry}(he:ERel σ es E){i:Nat}{k G:Value}(hs:oB es i k=true)(U:VRel σ k G):
  ∃x y,es[i]? = some x/\E[i]? = some y/\y.born=x.born/\(∀w,(Instr.keyThatStays y.key G).run P w = .ok G w):=by
 unfold oB at hs
 split at hs
 ·rename_i x O
  obtain⟨y,V,W,h3,_⟩:=he.get O;exact⟨x,y,O,V,W,fun w=>CR w hs h3 U⟩
 ·simp at hs
theorem qN(hr:HR base σ h w){t:TI}{m m' k V x x':Value}(E:iS P t m k x h=some h')(hm:VRel σ m m')(W:VRel σ k V)(hx:VRel σ x x'):
  ∃w',(Instr.mapUpdate t m' V x').run P w = .ok () w'/\HR base σ h' w'/\Ext base σ h w σ h' w':=by
 unfold iS at E
 split at E
 ·rename_i kt et b hu
  split at E
  ·simp at E
  ·rename_i aa
   simp only[VL,WU]at aa
   split at E
   ·rename_i es clock O
    obtain⟨e,he,rfl⟩:=hm.map_inv;obtain⟨U,h1,h2⟩:=hr.mapAt he O;have ac:(Instr.checkKey false 10000 kt V).run P w = .ok () w:=jK (P:=P) w aa W false 9998
    split at E
    ·rename_i i u hf
     split at E
     ·rename_i hs
      simp at E;subst E;obtain⟨r',q1,q2⟩:=iV w W h2 hf
      cases r' with
      | none=>exact q2.elim
      | some ju =>
       obtain⟨j,u'⟩:=ju;obtain⟨rfl,_⟩:=q2;obtain⟨a,y,ha,hy,hb,dN⟩:=wF (P:=P) h2 hs W;have ad:U[i]? = some y:=by rw[<-VR];exact hy
       have G:ERel σ (Ly es i k x) (U.modify i fun e=>{e with key:=V,val:=x'}).toList:=by
        rw[Array.toList_modify];exact ERel.modify (f:=fun e=>{e with key:=k,val:=x}) (g:=fun e=>{e with key:=V,val:=x'}) h2 (fun a b h3 _ _=>⟨h3,W,hx⟩) i
       obtain⟨g1,g2⟩:=hr.setMap (d:=clock) he O G;refine⟨_,?_,g1,g2⟩;simp[Instr.mapUpdate,run_underlying hu,cA h1 rfl,ac,q1,ad,dN,dW _ h1 rfl]
     ·simp at E
    ·rename_i hf
     simp at E;subst E;obtain⟨r',q1,q2⟩:=iV w W h2 hf
     cases r' with
     | some ju=>exact q2.elim
     | none =>
      have G:ERel σ (es++[⟨k,x,clock⟩]) (U.push ⟨V,x',clock⟩).toList:=by
       rw[Array.toList_push];exact h2.append (.cons _ _ _ _ rfl W hx .nil)
      obtain⟨g1,g2⟩:=hr.setMap (d:=clock+1) he O G;refine⟨_,?_,g1,g2⟩;simp[Instr.mapUpdate,run_underlying hu,cA h1 rfl,ac,q1,dW _ h1 rfl]
    ·simp at E
   ·simp at E
 ·simp at E
theorem AY(hr:HR base σ h w){t:TI}{m m' k V v:Value}(E:jU P t m k h=some (v,h'))(hm:VRel σ m m')(W:VRel σ k V):
  ∃v' w',(Instr.mapEntry t m' V).run P w = .ok v' w'/\VRel σ v v'/\HR base σ h' w'/\Ext base σ h w σ h' w':=by
 unfold jU at E
 split at E
 ·rename_i kt et b hu
  split at E
  ·simp at E
  ·rename_i aa
   simp only[VL,WU]at aa
   split at E
   ·rename_i es clock O
    obtain⟨e,he,rfl⟩:=hm.map_inv;obtain⟨U,h1,h2⟩:=hr.mapAt he O;have ac:(Instr.checkKey false 10000 kt V).run P w = .ok () w:=jK (P:=P) w aa W false 9998
    split at E
    ·rename_i i u hf
     split at E
     ·simp at E
     ·rename_i hs
      simp only[VL,WU]at hs
      split at E
      ·rename_i a0 ad
       simp at E;obtain⟨rfl,rfl⟩:=E;obtain⟨r',q1,q2⟩:=iV w W h2 hf
       cases r' with
       | none=>exact q2.elim
       | some ju =>
        obtain⟨j,u'⟩:=ju;obtain⟨rfl,hv⟩:=q2;obtain⟨a,y,ha,hy,hb,dN⟩:=wF (P:=P) h2 hs W;rw[ha]at ad;cases ad;have ae:U[i]? = some y:=by rw[<-VR];exact hy
        have G:ERel σ (GY es i k) (U.modify i fun e=>{e with key:=V}).toList:=by
         rw[Array.toList_modify];exact ERel.modify (f:=fun e=>{e with key:=k}) (g:=fun e=>{e with key:=V}) h2 (fun a b h3 _ h4=>⟨h3,W,h4⟩) i
        obtain⟨g1,g2⟩:=hr.setMap (d:=clock) he O G;refine⟨.tuple #[u',goInt y.born],_,?_,?_,g1,g2⟩
        ·simp[Instr.mapEntry,run_underlying hu,cA h1 rfl,ac,q1,ae,dN,dW _ h1 rfl]
        ·rw[hb];exact hv.two (.int _ _)
      ·simp at E
    ·rename_i hf
     split at E
     ·rename_i z hz
      split at E
      ·rename_i hp
       simp at E;obtain⟨rfl,rfl⟩:=E;obtain⟨r',q1,q2⟩:=iV w W h2 hf
       cases r' with
       | some ju=>exact q2.elim
       | none =>
        have hv:=lZ σ 100 z hp;have G:ERel σ (es++[⟨k,z,clock⟩]) (U.push ⟨V,z,clock⟩).toList:=by
         rw[Array.toList_push];exact h2.append (.cons _ _ _ _ rfl W hv .nil)
        obtain⟨g1,g2⟩:=hr.setMap (d:=clock+1) he O G;refine⟨.tuple #[z,goInt clock],_,?_,hv.two (.int _ _),g1,g2⟩;simp[Instr.mapEntry,run_underlying hu,cA h1 rfl,ac,q1,gO hz,dW _ h1 rfl]
      ·simp at E
     ·simp at E
    ·simp at E
   ·simp at E
 ·simp at E
theorem wV(hr:HR base σ h w){t:TI}{m W s s' x x':Value}(E:gV m s x h=some h')(hm:VRel σ m W)(hs:VRel σ s s')(hx:VRel σ x x'):
  ∃w',(Instr.entryStore t W s' x').run P w = .ok () w'/\HR base σ h' w'/\Ext base σ h w σ h' w':=by
 unfold gV at E
 split at E
 ·rename_i b k born
  split at E
  ·rename_i es clock G
   obtain⟨e,he,rfl⟩:=hm.map_inv;obtain rfl:=hs.int_inv;obtain⟨O,h1,h2⟩:=hr.mapAt he G;simp only[VD]at E;obtain⟨i,hi,rfl⟩:=E;have V:O.findIdx? (fun e=>(e.born:Int)==born)=some i:=by
    rw[<-hi,<-h2.findIdx (p:=fun n=>(n:Int)==born),<-List.findIdx?_toArray,Array.toArray_toList]
   have U:ERel σ (es.modify i fun e=>{e with val:=x}) (O.modify i fun e=>{e with val:=x'}).toList:=by
    rw[Array.toList_modify];exact ERel.modify (f:=fun e=>{e with val:=x}) (g:=fun e=>{e with val:=x'}) h2 (fun a b h3 h4 _=>⟨h3,h4,hx⟩) i
   obtain⟨g1,g2⟩:=hr.setMap (d:=clock) he G U;refine⟨_,?_,g1,g2⟩;simp[Instr.entryStore,cA h1 rfl,asInt,asIntOf,V,dW _ h1 rfl]
  ·simp at E
 ·simp at E
theorem Oq{r:Nat}{o:Obj}(h:w.heap[r]? = some o):({w with heap:=w.heap.setIfInBounds r o}:World)=w:=by
 have:w.heap.setIfInBounds r o=w.heap:=by
  apply Array.ext_getElem?;intro i;by_cases hi:r=i
  ·subst hi;have E:=(VT.1 h).1;rw[We E,h]
  ·rw[Wg hi]
 rw[this]
theorem Et(hr:HR base σ h w){ts:Array TI}{t ty:TI}{m m' k k' v:Value}{xs:AV}(ht:ts[0]? = some t)(U:xs[0]? = some m')(V:xs[1]? = some k')(E:xL P t m k h=some (v,h'))(hm:VRel σ m m')(hk:VRel σ k k'):
  ∃v' w',(Builtin.delete_ ts ty xs).run P w = .ok v' w'/\VRel σ v v'/\HR base σ h' w'/\Ext base σ h w σ h' w':=by
 unfold xL at E
 split at E
 ·rename_i kt et hu
  split at E
  ·rename_i G
   simp at E;obtain⟨rfl,rfl⟩:=E;obtain rfl:=hm.mnil_inv;have O:(Instr.checkKey true 10000 kt k').run P w = .ok () w:=jK (P:=P) w G hk true 9998;exact⟨undef,w,by simp[Builtin.delete_,ht,U,V,run_underlying hu,O,undef],VRel.undef σ,hr,Ext.refl _ _ _ _⟩
  ·simp at E
 ·rename_i kt et b hu
  split at E
  ·simp at E
  ·rename_i G
   simp only[VL,WU]at G
   split at E
   ·rename_i es clock aa
    obtain⟨e,he,rfl⟩:=hm.map_inv;obtain⟨W,h1,h2⟩:=hr.mapAt he aa;have O:(Instr.checkKey W.isEmpty 10000 kt k').run P w = .ok () w:=jK (P:=P) w G hk W.isEmpty 9998
    split at E
    ·rename_i i u hf
     simp at E;obtain⟨rfl,rfl⟩:=E;obtain⟨r',q1,q2⟩:=iV w hk h2 hf
     cases r' with
     | none=>exact q2.elim
     | some ju =>
      obtain⟨j,u'⟩:=ju;obtain⟨rfl,_⟩:=q2;have ac:ERel σ (es.eraseIdx i) (W.eraseIdxIfInBounds i).toList:=by
       rw[Array.toList_eraseIdxIfInBounds];exact h2.eraseIdx i
      obtain⟨g1,g2⟩:=hr.setMap (d:=clock) he aa ac;refine⟨undef,_,?_,VRel.undef σ,g1,g2⟩;simp[Builtin.delete_,ht,U,V,run_underlying hu,cA h1 rfl,O,q1,dW _ h1 rfl,undef]
    ·rename_i hf
     simp at E;obtain⟨rfl,rfl⟩:=E;obtain⟨r',q1,q2⟩:=iV w hk h2 hf
     cases r' with
     | some ju=>exact q2.elim
     | none =>
      refine⟨undef,w,?_,VRel.undef σ,hr,Ext.refl _ _ _ _⟩;simp[Builtin.delete_,ht,U,V,run_underlying hu,cA h1 rfl,O,q1,dW _ h1 rfl,Oq h1,undef]
    ·simp at E
   ·simp at E
 ·simp at E
theorem WNew.push(w:World)(o:Obj):WNew w (w.alloc o) o:=⟨rfl,rfl,rfl,rfl⟩
theorem Gx(hr:HR base σ h w){t:TI}{x x' v:Value}(E:qM P t x h=some (v,h'))(O:VRel σ x x'):
  ∃cE v' w',(Instr.range t x').run P w = .ok v' w'/\VRel cE v v'/\HR base cE h' w'/\Ext base σ h w cE h' w':=by
 unfold qM at E
 split at E
 ·rename_i kt et hu
  simp at E;obtain⟨rfl,rfl⟩:=E;obtain rfl:=O.mnil_inv;obtain⟨g1,g2,g3⟩:=hr.newOth (o:=.iter none 0 [] 0) (r:=.mapIter none 0 #[] 0) rfl (WNew.push w _) ⟨rfl,rfl,rfl,rfl⟩;refine⟨_,.pointer (some ⟨w.heap.size,0,none⟩),_,?_,?_,g1,g2⟩
  ·simp[Instr.range,run_underlying hu]
  ·exact .ptr _ 0 _ g3
 ·rename_i kt et b hu
  split at E
  ·rename_i es clock G
   simp at E;obtain⟨rfl,rfl⟩:=E;obtain⟨e,he,rfl⟩:=O.map_inv;obtain⟨U,V,W⟩:=hr.mapAt he G;have hle:σ.le (σ.put h.next ⟨w.heap.size,0,0⟩):=Sg.put_le (hr.none_next (Uf _));obtain⟨g1,g2,g3⟩:=hr.newOth (o:=.iter (some b) clock [] clock) (r:=.mapIter (some e.rb) clock #[] clock) rfl (WNew.push w _) ⟨rfl,rfl,rfl,e,hle _ _ he,rfl⟩;refine⟨_,.pointer (some ⟨w.heap.size,0,none⟩),_,?_,?_,g1,g2⟩
   ·simp[Instr.range,run_underlying hu,cA V rfl]
   ·exact .ptr _ 0 _ g3
  ·simp at E
 ·simp at E
theorem wC(hr:HR base σ h w)(t:TI){r:OV}(E:r=none\/(∃k n,r=some (.int k n))/\∃a b,P.underlying t=some (.map a b)) :
  ∃cE v' w',(Instr.makeMap t r).run P w = .ok v' w'/\VRel cE (.map (some h.next)) v'/\HR base cE (h.newOb (.map [] 0)) w'/\Ext base σ h w cE (h.newOb (.map [] 0)) w':=by
 obtain⟨g1,g2,g3⟩:=hr.newOth (o:=.map [] 0) (r:=.map #[] 0) rfl (WNew.push w _) ⟨rfl,.nil⟩;refine⟨_,.map (some w.heap.size),_,?_,.map _ _ g3,g1,g2⟩;rcases E with rfl | ⟨⟨k,n,rfl⟩,a,b,hu⟩
 ·simp[Instr.makeMap]
 ·simp[Instr.makeMap,run_underlying hu,asInt,asIntOf]
theorem KV(hr:HR base σ h w){x x':Value}{ty:TI}{af:List (Value×Hp)}(hc:wM x h=some af)(hx:VRel σ x x'):
  ∃v h' v' w',(v,h')∈af/\(Instr.next x' false ty).run P w = .ok v' w'/\VRel σ v v'/\HR base σ h' w'/\Ext base σ h w σ h' w':=by
 unfold wM at hc
 split at hc
 ·split at hc
  ·rename_i b s0 seen st ae
   simp at hc;subst hc;obtain⟨_,e,he,rfl⟩:=hx.ptr_inv;obtain⟨m',E,h1,h0,h3,rfl⟩:=hr.iterAt he ae;refine⟨_,_,.tuple #[.bool false],w,by simp,?_,.one false,hr,Ext.refl _ _ _ _⟩;simp[Instr.next,h0,cA h1 rfl]
  ·rename_i b m since seen last ae
   obtain⟨_,e,he,rfl⟩:=hx.ptr_inv;obtain⟨m',E,h1,h0,h3,h4⟩:=hr.iterAt he ae;obtain⟨em,an,rfl⟩:=h4
   split at hc
   ·rename_i es clock hm
    obtain⟨V,h5,h6⟩:=hr.mapAt an hm
    split at hc
    ·simp at hc
    ·rename_i ay
     simp only[Um]at hc;have aj:E.isEmpty=seen.isEmpty:=by rw[<-h3];simp
     have az:V.isEmpty=es.isEmpty:=h6.empty;have ao:V.all (fun e=>decide (e.born>=last))=es.all (fun e=>decide (e.born>=last)):=by
      rw[<-Array.all_toList];exact h6.all (p:=fun n=>decide (n>=last))
     have ag:(!E.isEmpty && !V.isEmpty&&V.all (fun e=>decide (e.born>=last)))=false:=by
      rw[aj,az,ao];simpa using ay
     have ap:∀n,E.contains n=seen.contains n:=by intro n;rw[<-h3];simp
     have hL:ERel σ (es.filter fun e=>!seen.contains e.born) ((V.filter fun e=>!E.contains e.born)).toList:=by
      rw[Array.toList_filter];simp only[ap];exact h6.filter (p:=fun n=>!seen.contains n)
     generalize hl:(es.filter fun e=>!seen.contains e.born)=left at hc hL;generalize a0:(V.filter fun e=>!E.contains e.born)=W at hL;have hO:ERel σ (left.filter fun e=>decide (e.born < since)) (W.filter fun e=>decide (e.born < since)).toList:=by
      rw[Array.toList_filter];exact hL.filter (p:=fun n=>decide (n < since))
     have hN:ERel σ (left.filter fun e=>decide (e.born>=since)) (W.filter fun e=>decide (e.born>=since)).toList:=by
      rw[Array.toList_filter];exact hL.filter (p:=fun n=>decide (n>=since))
     generalize ho:(left.filter fun e=>decide (e.born < since))=old at hc hO;generalize a4:(W.filter fun e=>decide (e.born < since))=aa at hO;generalize hn:(left.filter fun e=>decide (e.born>=since))=new at hc hN;generalize a5:(W.filter fun e=>decide (e.born>=since))=gG at hN;have a6:aa.isEmpty=old.isEmpty:=hO.empty
     let G:Array (Option MapEntry):=(if aa.isEmpty then #[none] else #[])++(aa++gG).map some
     have O:G.toList=(if old.isEmpty then [none] else [])++(aa.toList++gG.toList).map some:=by
      simp only[G,Array.toList_append,Array.toList_map,a6]
      split <;> rfl
     have ah:0 < G.size:=by
      rw[<-VE,O];by_cases hh:old.isEmpty=true
      ·simp[hh]
      ·have:=hO.length
       cases old with
       | nil=>simp at hh
       | cons a l=>simp at this;simp;omega
     obtain⟨i,wd,hi,a7,aq,a8⟩:∃i wd,i < G.size/\(choose (.mapNext G.size)).run P w = .ok i wd/\wd.heap=w.heap/\wd={w with drawn:=wd.drawn}:=by
      rw[run_choose]
      split
      ·exact⟨0,w,ah,rfl,rfl,rfl⟩
      ·exact⟨_,_,Nat.mod_lt _ ah,rfl,rfl,rfl⟩
     have ar:HR base σ h wd:=hr.drawn aq;have ai:Ext base σ h w σ h wd:=by
      rw[a8];exact⟨Sg.le_refl σ,rfl,rfl,rfl,Uf _,fun _ _=>rfl,fun _ _ _=>rfl,fun b e s1 s2=>by rw[s1]at s2;simp at s2,Uf _,fun b _ hb=>⟨rfl,rfl,hb⟩⟩
     have a9:wd.heap[e.rb]? = some (.mapIter (some em.rb) since E last):=by rw[aq];exact h1
     have ak:G[i]? = G.toList[i]?:=by simp
     have au:(Instr.next (.pointer (some ⟨e.rb,e.ro+0,none⟩)) false ty).run P w=(match G[i]? with
       | some (some x)=>do
        setObj e.rb (.mapIter (some em.rb) since (E.push x.born) clock)
        pure (.tuple #[.bool true,x.key,x.val])
       | some none=>pure (.tuple #[.bool false])
       | none=>stuck "Next: no such candidate" : Sem Value).run P wd:=by
      have bf:¬((¬E = #[]/\¬V = #[])/\∀(i:Nat) (hi:i < V.size),last<=V[i].born):=by
       intro hx;have:(!E.isEmpty && !V.isEmpty&&V.all (fun e=>decide (e.born>=last)))=true:=by
        simp only[Uw,VL,Array.isEmpty_iff,Array.isEmpty_eq_false_iff,Array.all_eq_true,decide_eq_true_eq];exact hx
       rw[ag]at this;simp at this
      simp only[Instr.next,Sem.run_bind,h0,Vk,cA h1 rfl,Result.andThen_ok,cA h5 rfl,ag,VA,if_false,Sem.run_pure,a0,a4,a5];show((choose (.mapNext G.size)).run P w).andThen _=_;rw[a7]
      rfl
     have ax:(E.push 0).size=E.size+1:=by simp
     rw[au];by_cases ad:old.isEmpty=true/\i=0
     ·obtain⟨U,rfl⟩:=ad;have ba:G[0]? = some none:=by rw[ak,O];simp[U]
      rw[ba];exact⟨_,_,.tuple #[.bool false],wd,by rw[<-hc];simp[U],rfl,.one false,ar,ai⟩
     ·
      have av:∃x y,G[i]? = some (some y)/\(x∈old++new)/\y.born=x.born/\VRel σ x.key y.key/\VRel σ x.val y.val:=by
       have al:=hO.append hN;have hlen:=al.length;have ac:i < G.toList.length:=by simpa using hi
       by_cases U:old.isEmpty=true
       ·have bg:i≠0:=fun hh=>ad ⟨U,hh⟩;rw[ak,O,if_pos U,VN (by simp;omega)];rw[O,if_pos U]at ac;simp only[Ug,Ux,Vl,VP]at ac;have hj:i - 1 < (old++new).length:=by rw[hlen,Ug];omega
        obtain⟨y,q1,q2⟩:=al.get (Uh hj);refine⟨(old++new)[i - 1],y,?_,List.getElem_mem hj,q2⟩;simp only[Ux,Vl,VB,q1];rfl
       ·rw[ak,O,if_neg U,VH];rw[O,if_neg U]at ac;simp only[Ug,Vl,VP]at ac;have hj:i < (old++new).length:=by rw[hlen,Ug];omega
        obtain⟨y,q1,q2⟩:=al.get (Uh hj);refine⟨(old++new)[i],y,?_,List.getElem_mem hj,q2⟩;simp only[VB,q1];rfl
      obtain⟨x,y,hy,bb,k1,k2,k3⟩:=av;rw[hy];obtain⟨g1,g2⟩:=ar.setOth (o':=.iter (some m) since (seen++[x.born]) clock) (r':=.mapIter (some em.rb) since (E.push y.born) clock) he ae rfl rfl
       ⟨rfl,rfl,by rw[Array.toList_push,h3,k1],em,an,rfl⟩
      refine⟨.tuple #[.bool true,x.key,x.val],_,.tuple #[.bool true,y.key,y.val],_,?_,?_,.three (.bool _) k2 k3,g1,ai.trans g2⟩
      ·rw[<-hc];refine VF.2 (.inr (Uu.2 ⟨x,bb,rfl⟩))
      ·simp[dW _ a9 rfl]
   ·simp at hc
  ·simp at hc
 ·simp at hc
end
end Go.Cn
