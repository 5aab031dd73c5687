/- Joined: CnB, CnC, CnD, CnE, CnF, CnG, CnH, CnHm. -/
import Derived.Test.YtmapagggnigfpaaGreatDn01
import Derived.Laws.IdiomCopy
import Derived.ChangeKeysEq
set_option linter.unusedVariables false
set_option linter.unusedSimpArgs false
namespace Go.Cn
theorem Tr.get_set{α:Type}(a:α):∀(f n:Nat) (t:Tr α) (m:Nat),n < f->(Tr.set a f n t).get m=if m=n then some a else t.get m
 | 0,_,_,_,h=>absurd h (by omega)
 | f+1,n,.leaf,m,h=>by
  unfold Tr.set;by_cases G:n=0
  ·subst G;by_cases hm:m=0
   ·simp[Tr.get,hm]
   ·simp[Tr.get,hm]
  ·simp only[G,if_false];by_cases hp:n % 2=1
   ·simp only[hp,if_true];have O:=Tr.get_set a f (n / 2) .leaf;by_cases hm:m=0
    ·subst hm;have:¬0=n:=fun e=>G e.symm;simp[Tr.get,this]
    ·by_cases E:m % 2=1
     ·simp only[Tr.get,hm,if_false,E,if_true,O (m / 2) (by omega)];by_cases e:m=n
      ·subst e;simp
      ·rw[if_neg (by omega),if_neg e]
     ·simp only[Tr.get,hm,if_false,E];rw[if_neg (by rintro rfl;exact E hp)]
   ·simp only[hp,if_false];have O:=Tr.get_set a f (n / 2 - 1) .leaf;by_cases hm:m=0
    ·subst hm;have:¬0=n:=fun e=>G e.symm;simp[Tr.get,this]
    ·by_cases E:m % 2=1
     ·simp only[Tr.get,hm,if_false,E,if_true];rw[if_neg (by rintro rfl;exact hp E)]
     ·simp only[Tr.get,hm,if_false,E,O (m / 2 - 1) (by omega)];by_cases e:m=n
      ·subst e;simp
      ·rw[if_neg (by omega),if_neg e]
 | f+1,n,.node o l r,m,h=>by
  unfold Tr.set;by_cases G:n=0
  ·subst G;by_cases hm:m=0
   ·simp[Tr.get,hm]
   ·simp[Tr.get,hm]
  ·simp only[G,if_false];by_cases hp:n % 2=1
   ·simp only[hp,if_true];have O:=Tr.get_set a f (n / 2) l;by_cases hm:m=0
    ·subst hm;have:¬0=n:=fun e=>G e.symm;simp[Tr.get,this]
    ·by_cases E:m % 2=1
     ·simp only[Tr.get,hm,if_false,E,if_true,O (m / 2) (by omega)];by_cases e:m=n
      ·subst e;simp
      ·rw[if_neg (by omega),if_neg e]
     ·simp only[Tr.get,hm,if_false,E];rw[if_neg (by rintro rfl;exact E hp)]
   ·simp only[hp,if_false];have O:=Tr.get_set a f (n / 2 - 1) r;by_cases hm:m=0
    ·subst hm;have:¬0=n:=fun e=>G e.symm;simp[Tr.get,this]
    ·by_cases E:m % 2=1
     ·simp only[Tr.get,hm,if_false,E,if_true];rw[if_neg (by rintro rfl;exact hp E)]
     ·simp only[Tr.get,hm,if_false,E,O (m / 2 - 1) (by omega)];by_cases e:m=n
      ·subst e;simp
      ·rw[if_neg (by omega),if_neg e]
theorem Hp.ob_setOb(h:Hp)(b:Nat)(o:Ob)(b':Nat):(h.setOb b o).ob b'=if b'=b then some o else h.ob b':=by
 unfold Hp.setOb Hp.ob;exact Tr.get_set _ _ _ _ _ (by omega)
theorem Hp.gs_setOb(h:Hp)(b:Nat)(o:Ob):(h.setOb b o).gs=h.gs:=rfl
theorem Hp.next_setOb(h:Hp)(b:Nat)(o:Ob):(h.setOb b o).next=h.next:=rfl
theorem Hp.gs_setGs(h:Hp)(g:Nat)(l:LN)(E:Nat):(h.setGs g l).gs.get E=if E=g then some l else h.gs.get E:=by
 unfold Hp.setGs;exact Tr.get_set _ _ _ _ _ (by omega)
theorem Hp.ob_alloc(h:Hp)(cs:LV)(e:TI)(b:Nat):(h.alloc cs e).ob b=if b=h.next then some (.cells cs e (some h.next)) else h.ob b:=by
 unfold Hp.alloc Hp.ob;exact Tr.get_set _ _ _ _ _ (by omega)
theorem Hp.gs_alloc(h:Hp)(cs:LV)(e:TI):(h.alloc cs e).gs=h.gs:=rfl
theorem Hp.next_alloc(h:Hp)(cs:LV)(e:TI):(h.alloc cs e).next=h.next+1:=rfl
structure En where
 rb:Nat
 ro:Nat
 rs:Nat
abbrev Sg:=Nat->Option En
def Sg.le(σ cE:Sg):Prop:=∀b e,σ b=some e->cE b=some e
theorem Sg.le_refl(σ:Sg):σ.le σ:=fun _ _ h=>h
theorem Sg.le_trans{a b c:Sg}(h:a.le b)(k:b.le c):a.le c:=fun _ _ e=>k _ _ (h _ _ e)
inductive VRel (σ:Sg):Value->Value->Prop where
 | unk (v:Value):VRel σ unk v
 | bool (b:Bool):VRel σ (.bool b) (.bool b)
 | int (k:IntKind) (n:Int):VRel σ (.int k n) (.int k n)
 | float (k:FloatKind) (n:Nat):VRel σ (.float k n) (.float k n)
 | complex (k:FloatKind) (n m:Nat):VRel σ (.complex k n m) (.complex k n m)
 | string (s:BA):VRel σ (.string s) (.string s)
 | nilFunc:VRel σ .nilFunc .nilFunc
 | nilIface:VRel σ .nilIface .nilIface
 | pnil:VRel σ (.pointer none) (.pointer none)
 | ptr (b o:Nat) (e:En):σ b=some e->VRel σ (.pointer (some ⟨b,o,none⟩)) (.pointer (some ⟨e.rb,e.ro+o,none⟩))
 | snil:VRel σ (.slice none 0 0) (.slice none 0 0)
 | sexact (b o l c:Nat) (e:En) (a:Addr):σ b=some e->l<=c->(c=0\/a=⟨e.rb,e.ro+o,none⟩)->VRel σ (.slice (some ⟨b,o,none⟩) l c) (.slice (some a) l c)
 | sopen (b o n l c c':Nat) (e:En) (a:Addr):σ b=some e->l<=c->c<=c'->(c'=0\/(a=⟨e.rb,e.ro+o,none⟩/\e.ro+o+c' * n<=e.rs))->
   VRel σ (.slice (some ⟨b,o,some n⟩) l c) (.slice (some a) l c')
 | mnil:VRel σ (.map none) (.map none)
 | map (b:Nat) (e:En):σ b=some e->VRel σ (.map (some b)) (.map (some e.rb))
 | yield (l:Nat) (e:En):σ l=some e->VRel σ (.func (.yield l) #[] #[]) (.func (.yield e.rb) #[] #[])
 | one (b:Bool):VRel σ (.tuple #[.bool b]) (.tuple #[.bool b])
 | func (fn:Fn) (a b a' b':AV):isYield fn=false->a.size=a'.size->b.size=b'.size->(∀(i:Nat) x y,a[i]? = some x->a'[i]? = some y->VRel σ x y)->
   (∀(i:Nat) x y,b[i]? = some x->b'[i]? = some y->VRel σ x y)->VRel σ (.func fn a b) (.func fn a' b')
 | iface (t:TI) (v v':Value):VRel σ v v'->VRel σ (.iface t v) (.iface t v')
 | agg (a a':AV):a.size=a'.size->(∀(i:Nat) x y,a[i]? = some x->a'[i]? = some y->VRel σ x y)->VRel σ (.agg a) (.agg a')
 | tuple (a a':AV):a.size=a'.size->a.size≠1->(∀(i:Nat) x y,a[i]? = some x->a'[i]? = some y->VRel σ x y)->VRel σ (.tuple a) (.tuple a')
theorem VRel.mono{σ cE:Sg}(h:σ.le cE){x y:Value}(hv:VRel σ x y):VRel cE x y:=by
 induction hv with
 | unk v=>exact .unk v
 | bool b=>exact .bool b
 | int k n=>exact .int k n
 | float k n=>exact .float k n
 | complex k n m=>exact .complex k n m
 | string s=>exact .string s
 | nilFunc=>exact .nilFunc
 | nilIface=>exact .nilIface
 | pnil=>exact .pnil
 | ptr b o e hb=>exact .ptr b o e (h _ _ hb)
 | snil=>exact .snil
 | sexact b o l c e a hb hl E=>exact .sexact b o l c e a (h _ _ hb) hl E
 | sopen b o n l c c' e a hb hl hc E=>exact .sopen b o n l c c' e a (h _ _ hb) hl hc E
 | mnil=>exact .mnil
 | map b e hb=>exact .map b e (h _ _ hb)
 | yield l e hl=>exact .yield l e (h _ _ hl)
 | one b=>exact .one b
 | func fn a b a' b' hf E hb V h2 W aa=>exact .func fn a b a' b' hf E hb (fun i x y G O=>W i x y G O) (fun i x y G O=>aa i x y G O)
 | iface t v v' hv U=>exact .iface t v v' U
 | agg a a' E V U=>exact .agg a a' E (fun i x y G O=>U i x y G O)
 | tuple a a' E V h2 U=>exact .tuple a a' E V (fun i x y G O=>U i x y G O)
theorem VRel.undef(σ:Sg):VRel σ undef undef:=.tuple #[] #[] rfl (by simp) (by simp)
def bK(σ:Sg)(xs ys:LV):Prop:=xs.length=ys.length/\∀(i:Nat) x y,xs[i]? = some x->ys[i]? = some y->VRel σ x y
def eM(σ:Sg)(tm:LV)(tmps:AV):Prop:=tm.length=tmps.size/\∀(i:Nat),VRel σ (tm.getD i undef) (tmps.getD i undef)
theorem bK.mono{σ cE:Sg}(h:σ.le cE){xs ys:LV}(E:bK σ xs ys):bK cE xs ys:=⟨E.1,fun i x y G O=>(E.2 i x y G O).mono h⟩
theorem eM.mono{σ cE:Sg}(h:σ.le cE){xs:LV}{ys:AV}(E:eM σ xs ys):eM cE xs ys:=⟨E.1,fun i=>(E.2 i).mono h⟩
theorem bK.nil(σ:Sg):bK σ [] []:=⟨rfl,by simp⟩
theorem bK.cons{σ:Sg}{x y:Value}{xs ys:LV}(h:VRel σ x y)(hl:bK σ xs ys):bK σ (x::xs) (y::ys):=by
 refine⟨by simp[hl.1],fun i a b E hb=>?_⟩
 cases i with
 | zero=>simp at E hb;subst E;subst hb;exact h
 | succ i=>simp at E hb;exact hl.2 i a b E hb
theorem bK.append{σ:Sg}{xs ys E G:LV}(h:bK σ xs ys)(h':bK σ E G):bK σ (xs++E) (ys++G):=by
 refine⟨by simp[h.1,h'.1],fun i a b O hb=>?_⟩;by_cases hi:i < xs.length
 ·rw[VQ hi]at O;rw[VQ (by rw[<-h.1];exact hi)]at hb;exact h.2 i a b O hb
 ·rw[VN (by omega)]at O;rw[VN (by rw[<-h.1];omega),<-h.1]at hb;exact h'.2 _ a b O hb
theorem bK.get{σ:Sg}{xs ys:LV}(h:bK σ xs ys){i:Nat}{x:Value}(E:xs[i]? = some x):∃y,ys[i]? = some y/\VRel σ x y:=by
 have hi:i < ys.length:=by rw[<-h.1];exact(Us.1 E).1
 exact⟨ys[i],Uh hi,h.2 i x _ E (Uh hi)⟩
theorem bK.get'{σ:Sg}{xs ys:LV}(h:bK σ xs ys){i:Nat}{y:Value}(E:ys[i]? = some y):∃x,xs[i]? = some x/\VRel σ x y:=by
 have hi:i < xs.length:=by rw[h.1];exact(Us.1 E).1
 exact⟨xs[i],Uh hi,h.2 i _ y (Uh hi) E⟩
theorem bK.take{σ:Sg}{xs ys:LV}(h:bK σ xs ys)(n:Nat):bK σ (xs.take n) (ys.take n):=by
 refine⟨by simp[h.1],fun i a b E hb=>?_⟩;rw[VZ]at E hb
 split at E
 ·rename_i hi;rw[if_pos hi]at hb;exact h.2 i a b E hb
 ·simp at E
theorem bK.drop{σ:Sg}{xs ys:LV}(h:bK σ xs ys)(n:Nat):bK σ (xs.drop n) (ys.drop n):=by
 refine⟨by simp[h.1],fun i a b E hb=>?_⟩;rw[Vp]at E hb;exact h.2 _ a b E hb
theorem bK.of_agg{σ:Sg}{a a':AV}(E:a.size=a'.size)(G:∀(i:Nat) x y,a[i]? = some x->a'[i]? = some y->VRel σ x y):bK σ a.toList a'.toList :=
 ⟨by simpa using E,fun i x y O U=>G i x y (by simpa using O) (by simpa using U)⟩
theorem bK.to_agg{σ:Sg}{xs ys:LV}(h:bK σ xs ys):VRel σ (.agg xs.toArray) (.agg ys.toArray) :=
 .agg _ _ (by simpa using h.1) (fun i x y E G=>h.2 i x y (by simpa using E) (by simpa using G))
theorem eM.put{σ:Sg}{tm:LV}{a:Act}(h:eM σ tm a.tmps)(d:Option Tmp){v v':Value}(E:VRel σ v v'):eM σ (put tm d v) (a.put d v').tmps:=by
 cases d with
 | none=>exact h
 | some d =>
  refine⟨by simp[Cn.put,Act.put,h.1],fun i=>?_⟩;simp only[Cn.put,Act.put];by_cases hi:i=d
  ·subst hi;by_cases hl:i < tm.length
   ·rw[Uz,List.getElem?_set_self hl,VW,We (by rw[<-h.1];exact hl)];exact E
   ·have:=h.2 i;rw[Uz,VW]at this ⊢;rw[List.set_eq_of_length_le (by omega)];have hs:¬i < a.tmps.size:=by rw[<-h.1];exact hl
    simpa[Array.getElem?_setIfInBounds,hs]using this
  ·have:=h.2 i;rw[Uz,VW]at this ⊢;rw[Wq (fun e=>hi e.symm),Wg (fun e=>hi e.symm)];exact this
theorem Act.put_defers'(a:Act)(d:Option Tmp)(v:Value):(a.put d v).defers=a.defers:=by cases d <;> rfl
theorem lZ(σ:Sg):∀(n:Nat) (v:Value),plainV n v=true->VRel σ v v:=by
 intro n
 induction n with
 | zero =>
  intro v h
  cases v with
  | bool b=>exact .bool b
  | int k n=>exact .int k n
  | float k n=>exact .float k n
  | complex k n m=>exact .complex k n m
  | string s=>exact .string s
  | nilFunc=>exact .nilFunc
  | nilIface=>exact .nilIface
  | pointer a=>cases a with
   | none=>exact .pnil
   | some a=>simp[plainV]at h
  | map a=>cases a with
   | none=>exact .mnil
   | some a=>simp[plainV]at h
  | slice a l c =>
   cases a with
   | some a=>simp[plainV]at h
   | none=>cases l with
    | succ l=>simp[plainV]at h
    | zero=>cases c with
     | succ c=>simp[plainV]at h
     | zero=>exact .snil
  | _=>simp[plainV]at h
 | succ n O =>
  intro v h
  cases v with
  | bool b=>exact .bool b
  | int k n=>exact .int k n
  | float k n=>exact .float k n
  | complex k n m=>exact .complex k n m
  | string s=>exact .string s
  | nilFunc=>exact .nilFunc
  | nilIface=>exact .nilIface
  | pointer a=>cases a with
   | none=>exact .pnil
   | some a=>simp[plainV]at h
  | map a=>cases a with
   | none=>exact .mnil
   | some a=>simp[plainV]at h
  | slice a l c =>
   cases a with
   | some a=>simp[plainV]at h
   | none=>cases l with
    | succ l=>simp[plainV]at h
    | zero=>cases c with
     | succ c=>simp[plainV]at h
     | zero=>exact .snil
  | agg cs =>
   simp only[plainV,VK]at h;refine .agg _ _ rfl fun i x y E G=>?_;rw[E]at G;cases G;exact O x (h x (by simpa using Array.mem_of_getElem? E))
  | tuple cs =>
   simp only[plainV,Uw,VK]at h;refine .tuple _ _ rfl (by simpa using h.1) fun i x y E G=>?_;rw[E]at G;cases G;exact O x (h.2 x (by simpa using Array.mem_of_getElem? E))
  | iface t v=>exact .iface t v v (O v (by simpa[plainV]using h))
  | _=>simp[plainV]at h
theorem kX{σ:Sg}{tm:LV}{a:Act}(h:eM σ tm a.tmps)(x:Operand):VRel σ (ev tm x) (a.eval x):=by
 cases x with
 | tmp t=>exact h.2 t
 | const v =>
  simp only[ev,Act.eval]
  split
  ·rename_i hp;exact lZ σ 100 v hp
  ·exact .unk v
 | global g=>exact .unk _
 | func f=>exact .func _ _ _ _ _ rfl rfl rfl (by simp) (by simp)
theorem VRel.cells{σ:Sg}{x y:Value}(h:VRel σ x y)(hu:fR x=false):bK σ x.cells.toList y.cells.toList:=by
 have one:∀{a b:Value},VRel σ a b->bK σ [a] [b]:=fun h=>bK.cons h (bK.nil σ)
 cases h with
 | unk v=>simp[fR,Cn.unk]at hu
 | agg a a' E G=>exact bK.of_agg E G
 | one b=>simp[fR]at hu
 | _=>refine one ?_;constructor <;> assumption
section
variable {P:Program} {σ:Sg}
theorem cT{t:TI}{n:Nat}(h:size? P t=some n)(w:World):(sizeOf t).run P w = .ok n w:=by
 unfold size? at h
 cases hi:P.info? t with
 | none=>simp[hi]at h
 | some i=>simp[hi]at h;simp[sizeOf,run_typeInfo w hi,h]
theorem gO{t:TI}{z:Value}(h:zero? P t=some z)(w:World):(zeroValue t).run P w = .ok z w:=by
 unfold zero? at h
 cases hi:P.info? t with
 | none=>simp[hi]at h
 | some i=>simp[hi]at h;simp[zeroValue,run_typeInfo w hi,h]
theorem tD{t:TI}{b:Bool}(h:agg? P t=some b)(w:World):(isAgg t).run P w = .ok b w:=by
 unfold agg? at h
 cases hu:P.underlying t with
 | none=>simp[hu]at h
 | some d=>cases d <;> simp[hu]at h <;> subst h <;> simp[isAgg,run_underlying hu]
def sW(σ:Sg)(a a':AV):Prop:=a.size=a'.size/\∀(i:Nat) x y,a[i]? = some x->a'[i]? = some y->VRel σ x y
theorem sW.get{a a':AV}(h:sW σ a a'){i:Nat}{x:Value}(E:a[i]? = some x):∃y,a'[i]? = some y/\VRel σ x y:=by
 have hi:i < a'.size:=by rw[<-h.1];exact(VT.1 E).1
 exact⟨a'[i],Vq hi,h.2 i x _ E (Vq hi)⟩
theorem sW.extract{a a':AV}(h:sW σ a a')(i j:Nat):sW σ (a.extract i j) (a'.extract i j):=by
 refine⟨by simp[h.1],fun k x y E G=>?_⟩;rw[Array.getElem?_extract]at E G
 split at E
 ·rename_i O
  rw[if_pos (by simpa[h.1]using O)]at G;exact h.2 _ x y E G
 ·simp at E
theorem nU{t:TI}{a a':AV}{off:Nat}{v:Value}(h:part? P t a off=some v)(G:sW σ a a')(w:World):
  ∃v',(part t a' off).run P w = .ok v' w/\VRel σ v v':=by
 unfold part? at h
 cases E:agg? P t with
 | none=>simp[E]at h
 | some b =>
  simp only[E]at h
  cases b with
  | true =>
   cases hs:size? P t with
   | none=>simp[hs]at h
   | some n =>
    simp[hs]at h;subst h;have:=G.extract (i:=off) (j:=off+n);exact⟨_,by simp[part,tD E,cT hs],.agg _ _ this.1 this.2⟩
  | false =>
   simp at h;obtain⟨y,O,U⟩:=G.get h;exact⟨y,by simp[part,tD E,O],U⟩
theorem VRel.agg_inv{a:AV}{y:Value}(h:VRel σ (.agg a) y):∃a',y = .agg a'/\sW σ a a':=by
 cases h with
 | agg a a' E G=>exact⟨a',rfl,E,G⟩
theorem VRel.bool_inv{b:Bool}{y:Value}(h:VRel σ (.bool b) y):y = .bool b:=by cases h;rfl
theorem VRel.int_inv{k:IntKind}{n:Int}{y:Value}(h:VRel σ (.int k n) y):y = .int k n:=by cases h;rfl
theorem VRel.string_inv{s:BA}{y:Value}(h:VRel σ (.string s) y):y = .string s:=by cases h;rfl
theorem VRel.pnil_inv{y:Value}(h:VRel σ (.pointer none) y):y = .pointer none:=by cases h;rfl
theorem VRel.ptr_inv{b o:Nat}{s:ON}{y:Value}(h:VRel σ (.pointer (some ⟨b,o,s⟩)) y):s=none/\∃e,σ b=some e/\y = .pointer (some ⟨e.rb,e.ro+o,none⟩):=by
 cases h with
 | ptr b o e hb=>exact⟨rfl,e,hb,rfl⟩
theorem VRel.nilIface_inv{y:Value}(h:VRel σ .nilIface y):y = .nilIface:=by cases h;rfl
theorem VRel.nilFunc_inv{y:Value}(h:VRel σ .nilFunc y):y = .nilFunc:=by cases h;rfl
theorem VRel.mnil_inv{y:Value}(h:VRel σ (.map none) y):y = .map none:=by cases h;rfl
theorem VRel.iface_inv{t:TI}{v:Value}{y:Value}(h:VRel σ (.iface t v) y):∃v',y = .iface t v'/\VRel σ v v':=by
 cases h with
 | iface t v v' E=>exact⟨v',rfl,E⟩
theorem VRel.func_inv{fn:Fn}{a b:AV}{y:Value}(h:VRel σ (.func fn a b) y)(E:isYield fn=false):∃a' b',y = .func fn a' b'/\sW σ a a'/\sW σ b b':=by
 cases h with
 | yield l e hl=>simp[isYield]at E
 | func fn a b a' b' W G O U V=>exact⟨a',b',rfl,⟨G,U⟩,O,V⟩
theorem VRel.func_is{fn:Fn}{a b:AV}{y:Value}(h:VRel σ (.func fn a b) y):∃E a' b',y = .func E a' b':=by
 cases h with
 | yield l e hl=>exact⟨_,_,_,rfl⟩
 | func fn a b a' b' G O U V W=>exact⟨_,_,_,rfl⟩
theorem VRel.yield_inv{l:Nat}{a b:AV}{y:Value}(h:VRel σ (.func (.yield l) a b) y):∃e,σ l=some e/\y = .func (.yield e.rb) #[] #[]:=by
 cases h with
 | yield l e hl=>exact⟨e,hl,rfl⟩
 | func fn a b a' b' E G O U V=>simp[isYield]at E
theorem VRel.snil_inv{l c:Nat}{y:Value}(h:VRel σ (.slice none l c) y):l=0/\c=0/\y = .slice none 0 0:=by cases h;exact⟨rfl,rfl,rfl⟩
theorem VRel.slice_inv{a:Addr}{l c:Nat}{y:Value}(h:VRel σ (.slice (some a) l c) y) :
  ∃a' c' e,y = .slice (some a') l c'/\σ a.block=some e/\l<=c/\c<=c'/\(c'=0\/a'=⟨e.rb,e.ro+a.off,none⟩)/\
   ((a.spot=none/\c=c')\/∃n,a.spot=some n/\(c'=0\/e.ro+a.off+c' * n<=e.rs)):=by
 cases h with
 | sexact b o l c e a hb hl E=>exact⟨a,c,e,rfl,hb,hl,Uf _,E,.inl ⟨rfl,rfl⟩⟩
 | sopen b o n l c c' e a hb hl G E=>exact⟨a,c',e,rfl,hb,hl,G,E.imp id (·.1),.inr ⟨n,rfl,E.imp id (·.2)⟩⟩
theorem VRel.map_inv{b:Nat}{y:Value}(h:VRel σ (.map (some b)) y):∃e,σ b=some e/\y = .map (some e.rb):=by
 cases h with
 | map b e hb=>exact⟨e,hb,rfl⟩
theorem VRel.tuple_inv{a:AV}{y:Value}(h:VRel σ (.tuple a) y)(E:a.size≠1):∃a',y = .tuple a'/\sW σ a a':=by
 cases h with
 | unk v=>simp[Cn.unk]at E
 | one b=>simp at E
 | tuple a a' E O G=>exact⟨a',rfl,E,G⟩
theorem VRel.one_inv{b:Bool}{y:Value}(h:VRel σ (.tuple #[.bool b]) y):y = .tuple #[.bool b]:=by
 cases h with
 | one b=>rfl
 | tuple a a' G E O=>simp at E
theorem VRel.undef_inv{y:Value}(h:VRel σ (.tuple #[]) y):y = .tuple #[]:=by
 obtain⟨a',rfl,E,_⟩:=h.tuple_inv (by simp);have:a' = #[]:=Array.eq_empty_of_size_eq_zero (by simpa using E.symm);rw[this]
theorem Cc{tm:LV}{a:Act}(h:eM σ tm a.tmps)(xs:Array Operand):sW σ (xs.map (ev tm)) (xs.map a.eval):=by
 refine⟨by simp,fun i x y E G=>?_⟩;simp only[Wh,VD]at E G;obtain⟨p,hp,rfl⟩:=E;obtain⟨q,O,rfl⟩:=G;rw[hp]at O;cases O;exact kX h p
theorem oX{d:Nat}{xs ys G O:AV}(hx:sW σ xs G)(hy:sW σ ys O)(w:World)
  (ih:∀(t:TI) (x y x' y':Value) (r:Bool),pN P d t x y=some r->VRel σ x x'->VRel σ y y'->(Op.equalIn d t x' y').run P w = .ok r w) :
  ∀(fs:List Field) (r:Bool),fs.foldr (fun f acc =>
    if f.name≠ "_" then
     match part? P f.type xs f.offset,part? P f.type ys f.offset with
     | some a,some b=>match pN P d f.type a b with
      | some true=>acc
      | some false=>some false
      | none=>none
     | _,_=>none
    else acc) (some true)=some r->(Op.eqFields d G O fs).run P w = .ok r w
 | [],r,h=>by
  simp at h;subst h;simp[Op.eqFields]
 | f::fs,r,h=>by
  simp only[Vv]at h;by_cases U:f.name≠ "_"
  ·simp only[U,if_true,ne_eq,not_false_eq_true]at h
   cases hp:part? P f.type xs f.offset with
   | none=>simp[hp]at h
   | some a=>cases V:part? P f.type ys f.offset with
    | none=>simp[hp,V]at h
    | some b =>
     obtain⟨a',ha,aa⟩:=nU hp hx w;obtain⟨b',hb,ac⟩:=nU V hy w
     cases W:pN P d f.type a b with
     | none=>simp[hp,V,W]at h
     | some t =>
      have E:=ih _ _ _ _ _ _ W aa ac
      cases t with
      | true =>
       simp only[hp,V,W]at h;have:=oX hx hy w ih fs r h;simpa[Op.eqFields,U,ha,hb,E]using this
      | false =>
       simp only[hp,V,W]at h
       cases h
       simp[Op.eqFields,U,ha,hb,E]
  ·simp only[U,if_false]at h;have:=oX hx hy w ih fs r h;simpa[Op.eqFields,U]using this
theorem wJ{d:Nat}{elem:TI}{n:Nat}{xs ys G O:AV}(hx:sW σ xs G)(hy:sW σ ys O)(w:World)
  (ih:∀(t:TI) (x y x' y':Value) (r:Bool),pN P d t x y=some r->VRel σ x x'->VRel σ y y'->(Op.equalIn d t x' y').run P w = .ok r w) :
  ∀(is:LN) (r:Bool),is.foldr (fun i acc =>
     match part? P elem xs (i * n),part? P elem ys (i * n) with
     | some a,some b=>match pN P d elem a b with
      | some true=>acc
      | some false=>some false
      | none=>none
     | _,_=>none) (some true)=some r->(Op.eqItems d elem n G O is).run P w = .ok r w
 | [],r,h=>by
  simp at h;subst h;simp[Op.eqItems]
 | f::fs,r,h=>by
  simp only[Vv]at h
  cases hp:part? P elem xs (f * n) with
   | none=>simp[hp]at h
   | some a=>cases U:part? P elem ys (f * n) with
    | none=>simp[hp,U]at h
    | some b =>
     obtain⟨a',ha,W⟩:=nU hp hx w;obtain⟨b',hb,aa⟩:=nU U hy w
     cases V:pN P d elem a b with
     | none=>simp[hp,U,V]at h
     | some t =>
      have E:=ih _ _ _ _ _ _ V W aa
      cases t with
      | true =>
       simp only[hp,U,V]at h;have:=wJ hx hy w ih fs r h;simpa[Op.eqItems,ha,hb,E]using this
      | false =>
       simp only[hp,U,V]at h
       cases h
       simp[Op.eqItems,ha,hb,E]
theorem xK(w:World):∀(d:Nat) (t:TI) (x y x' y':Value) (r:Bool),pN P d t x y=some r->VRel σ x x'->VRel σ y y'->(Op.equalIn d t x' y').run P w = .ok r w
 | 0,_,_,_,_,_,_,h,_,_=>by simp[pN]at h
 | d+1,t,x,y,x',y',r,h,G,E=>by
  have ih:=xK w d;unfold pN at h
  split at h
  case h_1 a b hu=>obtain rfl:=G.bool_inv;obtain rfl:=E.bool_inv;simp at h;subst h;simp[Op.equalIn,run_underlying hu]
  case h_2 k0 k a k' b hu =>
   obtain rfl:=G.int_inv;obtain rfl:=E.int_inv;by_cases hk:k=k'
   ·simp[hk]at h;subst h;simp[Op.equalIn,run_underlying hu,hk]
   ·simp[hk]at h
  case h_3 a b hu=>obtain rfl:=G.string_inv;obtain rfl:=E.string_inv;simp at h;subst h;simp[Op.equalIn,run_underlying hu]
  case h_4 el b hu =>
   obtain rfl:=G.pnil_inv
   cases b with
   | none=>obtain rfl:=E.pnil_inv;simp at h;subst h;simp[Op.equalIn,run_underlying hu]
   | some a =>
    obtain⟨bb,o,s⟩:=a;obtain⟨rfl,e,he,rfl⟩:=E.ptr_inv;simp at h;subst h;simp[Op.equalIn,run_underlying hu]
  case h_5 el a hu =>
   obtain⟨bb,o,s⟩:=a;obtain⟨rfl,e,he,rfl⟩:=G.ptr_inv;obtain rfl:=E.pnil_inv;simp at h;subst h;simp[Op.equalIn,run_underlying hu]
  case h_6 ms hu=>obtain rfl:=G.nilIface_inv;obtain rfl:=E.nilIface_inv;simp at h;subst h;simp[Op.equalIn,run_underlying hu]
  case h_7 ms u v hu=>obtain rfl:=G.nilIface_inv;obtain⟨v',rfl,_⟩:=E.iface_inv;simp at h;subst h;simp[Op.equalIn,run_underlying hu]
  case h_8 ms u v hu=>obtain rfl:=E.nilIface_inv;obtain⟨v',rfl,_⟩:=G.iface_inv;simp at h;subst h;simp[Op.equalIn,run_underlying hu]
  case h_9 fs xs ys hu =>
   obtain⟨V,rfl,O⟩:=G.agg_inv;obtain⟨W,rfl,U⟩:=E.agg_inv;by_cases hs:P.stoodInHeld t=true
   ·simp[hs]at h
   ·simp only[hs,if_false,VA]at h;have hf:P.fieldsOf t=fs:=by simp[Program.fieldsOf,hu]
    rw[run_equalIn_struct w d t V W (by rw[hf];exact hu) (by simpa using hs),hf];exact oX O U w ih _ _ h
  case h_10 len el xs ys hu =>
   obtain⟨V,rfl,O⟩:=G.agg_inv;obtain⟨W,rfl,U⟩:=E.agg_inv
   cases hs:size? P el with
   | none=>simp[hs]at h
   | some n =>
    simp only[hs]at h;unfold size? at hs
    cases hi:P.info? el with
    | none=>simp[hi]at hs
    | some i =>
     simp[hi]at hs;rw[run_equalIn_array w d _ _ hu hi];have hc:P.cellsOf el=n:=by simp[Program.cellsOf,hi,hs]
     rw[hc];exact wJ O U w ih _ _ h
  case h_11 el l c b m k hu =>
   obtain⟨rfl,rfl,rfl⟩:=G.snil_inv
   cases b with
   | none=>obtain⟨rfl,rfl,rfl⟩:=E.snil_inv;simp at h;subst h;simp[Op.equalIn,run_underlying hu]
   | some a=>obtain⟨a',c',e,rfl,_⟩:=E.slice_inv;simp at h;subst h;simp[Op.equalIn,run_underlying hu]
  case h_12 el a l c m k hu =>
   obtain⟨a',c',e,rfl,_⟩:=G.slice_inv;obtain⟨rfl,rfl,rfl⟩:=E.snil_inv;simp at h;subst h;simp[Op.equalIn,run_underlying hu]
  case h_13 k el b hu =>
   obtain rfl:=G.mnil_inv
   cases b with
   | none=>obtain rfl:=E.mnil_inv;simp at h;subst h;simp[Op.equalIn,run_underlying hu]
   | some a=>obtain⟨e,he,rfl⟩:=E.map_inv;simp at h;subst h;simp[Op.equalIn,run_underlying hu]
  case h_14 k el b hu =>
   obtain rfl:=E.mnil_inv;obtain⟨e,he,rfl⟩:=G.map_inv;simp at h;subst h;simp[Op.equalIn,run_underlying hu]
  case h_15 p1 p2 p3 hu=>obtain rfl:=G.nilFunc_inv;obtain rfl:=E.nilFunc_inv;simp at h;subst h;simp[Op.equalIn,run_underlying hu]
  case h_16 p1 p2 p3 fn f1 f2 hu=>obtain rfl:=G.nilFunc_inv;obtain⟨_,_,_,rfl⟩:=E.func_is;simp at h;subst h;simp[Op.equalIn,run_underlying hu]
  case h_17 p1 p2 p3 fn f1 f2 hu=>obtain rfl:=E.nilFunc_inv;obtain⟨_,_,_,rfl⟩:=G.func_is;simp at h;subst h;simp[Op.equalIn,run_underlying hu]
  case h_18 el a b hu =>
   obtain⟨b1,o1,s1⟩:=a;obtain⟨b2,o2,s2⟩:=b;obtain⟨rfl,e1,ac,rfl⟩:=G.ptr_inv;obtain⟨rfl,e2,aa,rfl⟩:=E.ptr_inv;simp only at h
   split at h
   ·rename_i hb
    subst hb;rw[ac]at aa
    cases aa
    split at h
    ·simp at h
    ·rename_i n hs
     simp only[Um]at h;subst h;have hn:(sizeOf el).run P w = .ok (n+1) w:=cT hs w;simp only[Op.equalIn,Sem.run_bind,run_underlying hu,Result.andThen_ok,hn];simp only[sameAddr,beq_self_eq_true,if_true];have:((⟨e1.rb,e1.ro+o1,none⟩:Addr)==⟨e1.rb,e1.ro+o2,none⟩)=(o1==o2):=by
      rw[Va,beq_iff_eq,beq_iff_eq];simp
     simp[this]
    ·simp at h
   ·simp at h
  case h_19=>simp at h
end
section
variable {P:Program} {σ:Sg}
theorem VRel.to_nilIface{a:Value}(h:VRel σ a .nilIface)(hu:fR a=false):a = .nilIface:=by
 generalize hb:Value.nilIface=b at h
 cases h <;> first | rfl | (simp at hb;done) | (simp[fR,Cn.unk]at hu;done)
theorem VRel.to_agg{a:Value}{c:AV}(h:VRel σ a (.agg c))(hu:fR a=false):∃d,a = .agg d:=by
 generalize hb:Value.agg c=b at h
 cases h <;> first | exact⟨_,rfl⟩ | (simp at hb;done) | (simp[fR,Cn.unk]at hu;done)
theorem VRel.to_int{a:Value}{k:IntKind}{m:Int}(h:VRel σ a (.int k m))(hu:fR a=false):a = .int k m:=by
 generalize hb:Value.int k m=b at h
 cases h <;> first | rfl | exact hb.symm | (simp at hb;done) | (simp[fR,Cn.unk]at hu;done)
theorem VRel.to_string{a:Value}{s:BA}(h:VRel σ a (.string s))(hu:fR a=false):a = .string s:=by
 generalize hb:Value.string s=b at h
 cases h <;> first | rfl | exact hb.symm | (simp at hb;done) | (simp[fR,Cn.unk]at hu;done)
theorem VRel.to_float{a:Value}{k:FloatKind}{m:Nat}(h:VRel σ a (.float k m))(hu:fR a=false):a = .float k m:=by
 generalize hb:Value.float k m=b at h
 cases h <;> first | rfl | exact hb.symm | (simp at hb;done) | (simp[fR,Cn.unk]at hu;done)
theorem VRel.to_complex{a:Value}{k:FloatKind}{m n:Nat}(h:VRel σ a (.complex k m n))(hu:fR a=false):a = .complex k m n:=by
 generalize hb:Value.complex k m n=b at h
 cases h <;> first | rfl | exact hb.symm | (simp at hb;done) | (simp[fR,Cn.unk]at hu;done)
theorem qJ{op:BinOp}{t:TI}{x y:Operand}{a b a' b':Value}(O:VRel σ a a')(hb:VRel σ b b')(E:fR a=false)(G:fR b=false)
  (h:fV P t x y a b=true) (w:World):(eqGuard op t x y a' b').run P w = .ok () w:=by
 have body:(match (generalizing:=false) a',b' with
   | .nilIface,.nilIface =>
    if(match (generalizing:=false) x with | .const _=>true | _=>false)||(match (generalizing:=false) y with | .const _=>true | _=>false) then pure ()
    else do if <-Op.eqGuardIn Op.maxDepth t a' b' then unsupported (.noEntry "binop/eql: two nil values of an interface type with methods, neither of them the literal nil") else pure ()
   | .agg _,.agg _=>do
    if !(<-program).eqGuardType (<-program).depth t then pure ()
    else if <-Op.eqGuardIn Op.maxDepth t a' b' then unsupported (.noEntry "binop/eql: two nil values of an interface type with methods, in a part of a struct or an array") else pure ()
   | _,_=>pure ():Sem Unit).run P w = .ok () w:=by
  split
  ·obtain rfl:=O.to_nilIface E;obtain rfl:=hb.to_nilIface G;simp only[fV,Vh]at h;rw[if_pos (by
    rw[Vh];rcases h with h | h
    ·left;cases x <;> simp_all
    ·right;cases y <;> simp_all)]
   rfl
  ·obtain⟨c,rfl⟩:=O.to_agg E;obtain⟨d,rfl⟩:=hb.to_agg G;simp only[fV,Cd,VL]at h;simp[h]
  ·rfl
 cases op <;> first | rfl | exact body
theorem BW{d:Nat}{t:TI}{x y:Value}{r:Bool}(h:pN P d t x y=some r):fR x=false/\fR y=false:=by
 cases d with
 | zero=>simp[pN]at h
 | succ d =>
  unfold pN at h
  split at h <;> first | exact⟨rfl,rfl⟩ | (simp at h;done)
theorem KG{op:BinOp}{t:TI}{k:IntKind}{m n:Int}{v:Value}(h:BH op k m n=some v)(hs:op≠.shl/\op≠.shr)(w:World):
  (Go.binOp op t (.int k m) (.int k n)).run P w = .ok v w:=by
 cases op <;> simp[BH]at h <;> first
  | (subst h;simp[Go.binOp,Op.intArith,Op.intBits,Op.intCmp];done)
  | (obtain⟨h0,rfl⟩:=h;simp[Go.binOp,Op.intDiv,h0];done)
  | (simp at hs;done)
theorem JY{op:BinOp}{t:TI}{s u:BA}{v:Value}(h:Aj op s u=some v)(w:World):
  (Go.binOp op t (.string s) (.string u)).run P w = .ok v w:=by
 cases op <;> simp[Aj]at h <;> first
  | (subst h;simp[Go.binOp,Op.stringOp];done)
  | (obtain⟨h0,rfl⟩:=h;simp[Go.binOp,Op.stringOp];omega)
theorem Ak{op:BinOp}{t:TI}{k E:IntKind}{m n:Int}{v:Value}(h:shift op k m n=some v)(w:World):
  (Go.binOp op t (.int k m) (.int E n)).run P w = .ok v w:=by
 unfold shift at h
 split at h
 ·simp at h
 ·rename_i G
  cases op <;> simp at h <;> subst h <;> simp[Go.binOp,Op.shift,G]
theorem Nc{op:BinOp}{t:TI}{x y:Operand}{a b a' b':Value}{v:Value}(h:wW P op t x y a b=some v)(E:VRel σ a a')(hb:VRel σ b b')(w:World):
  (do eqGuard op t x y a' b';Go.binOp op t a' b':Sem Value).run P w = .ok v w:=by
 have plain:∀(r:Bool),pN P Op.maxDepth t a b=some r->fV P t x y a b=true->(op = .eql/\v = .bool r\/op = .neq/\v = .bool !r)->
   (∀k m V n,¬(a' = .int k m/\b' = .int V n))->(∀s u,¬(a' = .string s/\b' = .string u))->(∀k m,a'≠.float k m)->(∀k m n,a'≠.complex k m n)->
   (do eqGuard op t x y a' b';Go.binOp op t a' b':Sem Value).run P w = .ok v w:=by
  intro r hr hp ho W h2 h3 h4;obtain⟨O,u2⟩:=BW hr;have G:=qJ (op:=op) E hb O u2 hp w;have he:(Op.equal t a' b').run P w = .ok r w:=xK w _ _ _ _ _ _ _ hr E hb;have U:(Go.binOp op t a' b').run P w = .ok v w:=by
   rcases ho with ⟨rfl,rfl⟩ | ⟨rfl,rfl⟩
   ·unfold Go.binOp
    split <;> first | (exfalso;first | exact W _ _ _ _ ⟨rfl,rfl⟩ | exact h2 _ _ ⟨rfl,rfl⟩ | exact h3 _ _ rfl | exact h4 _ _ _ rfl | (simp_all;done)) | (simp[he];done) | simp_all
   ·unfold Go.binOp
    split <;> first | (exfalso;first | exact W _ _ _ _ ⟨rfl,rfl⟩ | exact h2 _ _ ⟨rfl,rfl⟩ | exact h3 _ _ rfl | exact h4 _ _ _ rfl | (simp_all;done)) | (simp[he];done) | simp_all
  simp[G,U]
 unfold wW at h
 split at h
 ·rename_i k m V n
  obtain rfl:=E.int_inv;obtain rfl:=hb.int_inv;have G:=qJ (P:=P) (t:=t) (x:=x) (y:=y) (op:=op) E hb rfl rfl (by simp[fV]) w
  split at h
  ·simp[G,Ak h]
  ·simp[G,Ak h]
  ·rename_i W h2
   by_cases hk:k=V
   ·subst hk;simp at h;simp[G,KG h ⟨W,h2⟩]
   ·simp[hk]at h
 ·obtain rfl:=E.string_inv;obtain rfl:=hb.string_inv;have G:=qJ (P:=P) (t:=t) (x:=x) (y:=y) (op:=op) E hb rfl rfl (by simp[fV]) w;simp[G,JY h]
 ·simp at h
 ·simp at h
 ·rename_i n3 n4 n1 n2
  have key:∃r,pN P Op.maxDepth t a b=some r/\fV P t x y a b=true/\(op = .eql/\v = .bool r\/op = .neq/\v = .bool !r):=by
   split at h
   ·split at h
    ·rename_i hp
     simp only[VD]at h;obtain⟨r,hr,rfl⟩:=h;exact⟨r,hr,hp,.inl ⟨rfl,rfl⟩⟩
    ·simp at h
   ·split at h
    ·rename_i hp
     simp only[VD]at h;obtain⟨r,hr,rfl⟩:=h;exact⟨r,hr,hp,.inr ⟨rfl,rfl⟩⟩
    ·simp at h
   ·simp at h
  obtain⟨r,hr,hp,ho⟩:=key;obtain⟨O,u2⟩:=BW hr;refine plain r hr hp ho ?_ ?_ ?_ ?_
  ·rintro k m V n ⟨rfl,rfl⟩;have e1:=E.to_int O;have e2:=hb.to_int u2
   first | exact n1 _ _ _ _ e1 e2 | exact n2 _ _ _ _ e1 e2 | exact n3 _ _ _ _ e1 e2 | exact n4 _ _ _ _ e1 e2
  ·rintro s u ⟨rfl,rfl⟩;have e1:=E.to_string O;have e2:=hb.to_string u2
   first | exact n1 _ _ e1 e2 | exact n2 _ _ e1 e2 | exact n3 _ _ e1 e2 | exact n4 _ _ e1 e2
  ·rintro k m rfl;have e1:=E.to_float O
   first | exact n1 _ _ e1 | exact n2 _ _ e1 | exact n3 _ _ e1 | exact n4 _ _ e1
  ·rintro k m n rfl;have e1:=E.to_complex O
   first | exact n1 _ _ _ e1 | exact n2 _ _ _ e1 | exact n3 _ _ _ e1 | exact n4 _ _ _ e1
theorem Pe{op:UnOp}{a a' v:Value}(h:Tk op a=some v)(E:VRel σ a a')(w:World):(Op.unary op a').run P w = .ok v w:=by
 unfold Tk at h
 split at h <;> first | (simp at h;done) | skip
 ·obtain rfl:=E.int_inv;simp at h;subst h;simp[Op.unary,Op.intArith]
 ·obtain rfl:=E.int_inv;simp at h;subst h;simp[Op.unary,Op.intBits]
 ·obtain rfl:=E.bool_inv;simp at h;subst h;simp[Op.unary]
end
section
variable {P:Program} {σ:Sg}
theorem add_plain(g j n:Nat):(⟨g,j,none⟩:Addr).add n=⟨g,j+n,none⟩:=by unfold Addr.add;split <;> simp_all
theorem mM(d E:Nat):bound none d E=some d:=rfl
theorem HX{v:Value}{d E n:Nat}(h:bound (some v) d E=some n):∃k i,v = .int k i/\0<=i/\i<=(E:Int)/\n=i.toNat:=by
 unfold bound at h
 split at h
 ·rename_i G;simp at G
 ·rename_i k i G
  injection G with G
  split at h
  ·rename_i O;injection h with h;exact⟨k,i,G,O.1,O.2,h.symm⟩
  ·simp at h
 ·simp at h
theorem fL{v v':Value}{d G E n:Nat}(h:bound (some v) d G=some n)(O:VRel σ v v')(hm:G<=E)(code:BoundsCode)(w:World):
  (Instr.sliceBound v' E code).run P w = .ok n w/\n<=G:=by
 obtain⟨k,i,rfl,h0,V,rfl⟩:=HX h;obtain rfl:=O.int_inv;have U:i<=(E:Int):=by omega
 exact⟨by simp[Instr.sliceBound,asIntOf,h0,U],by omega⟩
def FJ(σ:Sg):OV->OV->Prop
 | none,none=>True
 | some x,some y=>VRel σ x y
 | _,_=>False
theorem Gr{tm:LV}{a:Act}(h:eM σ tm a.tmps)(x:Option Operand):FJ σ (x.map (ev tm)) (x.map a.eval):=by
 cases x with
 | none=>trivial
 | some x=>exact kX h x
theorem iM{len c c':Nat}{lo hi mx G O W:OV}{l h m:Nat}(hb:bounds len c lo hi mx=some (l,h,m))(aa:len<=c)(hc:c<=c')
  (E:FJ σ lo G) (U:FJ σ hi O) (ac:FJ σ mx W) (isSlice:Bool) (w:World) :
  (Instr.sliceBounds isSlice len c' G O W).run P w = .ok (l,h,if mx.isSome then m else c') w/\l<=h/\h<=m/\m<=c/\(mx=none->m=c):=by
 unfold bounds at hb
 cases mx with
 | none =>
  cases W with
  | some _=>exact ac.elim
  | none =>
   simp only[mM,Option.isSome_none,VA,if_false]at hb
   cases hi with
   | none =>
    cases O with
    | some _=>exact U.elim
    | none =>
     simp only[mM]at hb
     cases lo with
     | none =>
      cases G with
      | some _=>exact E.elim
      | none =>
       simp only[mM]at hb;simp at hb;obtain⟨rfl,rfl,rfl⟩:=hb;exact⟨by simp[Instr.sliceBounds],by omega,aa,Uf _,fun _=>rfl⟩
     | some lv =>
      cases G with
      | none=>exact E.elim
      | some ae =>
       cases hl:bound (some lv) 0 len with
       | none=>simp[hl]at hb
       | some n =>
        simp[hl]at hb;obtain⟨rfl,rfl,rfl⟩:=hb;obtain⟨r,hr⟩:=fL (P:=P) hl E (Uf _) .sliceB w;exact⟨by simp[Instr.sliceBounds,r],hr,aa,Uf _,fun _=>rfl⟩
   | some hv =>
    cases O with
    | none=>exact U.elim
    | some ag =>
     cases hh:bound (some hv) len c with
     | none=>simp[hh]at hb
     | some hn =>
      simp only[hh]at hb;obtain⟨rh,V⟩:=fL (P:=P) hh U hc (if isSlice then .sliceAcap else .sliceAlen) w
      cases lo with
      | none =>
       cases G with
       | some _=>exact E.elim
       | none =>
        simp[mM]at hb;obtain⟨rfl,rfl,rfl⟩:=hb;exact⟨by simp[Instr.sliceBounds,rh],by omega,V,Uf _,fun _=>rfl⟩
      | some lv =>
       cases G with
       | none=>exact E.elim
       | some ae =>
        cases hl:bound (some lv) 0 hn with
        | none=>simp[hl]at hb
        | some n =>
         simp[hl]at hb;obtain⟨rfl,rfl,rfl⟩:=hb;obtain⟨r,hr⟩:=fL (P:=P) hl E (Uf _) .sliceB w;exact⟨by simp[Instr.sliceBounds,rh,r],hr,V,Uf _,fun _=>rfl⟩
 | some mv =>
  cases W with
  | none=>exact ac.elim
  | some ah =>
   cases ad:bound (some mv) c c with
   | none=>simp[ad]at hb
   | some mn =>
    simp only[ad,Option.isSome_some,if_true]at hb;obtain⟨rm,af⟩:=fL (P:=P) ad ac hc (if isSlice then .slice3Acap else .slice3Alen) w
    cases hi with
    | none=>simp at hb
    | some hv =>
     cases O with
     | none=>exact U.elim
     | some ag =>
      simp only at hb
      cases hh:bound (some hv) len mn with
      | none=>simp[hh]at hb
      | some hn =>
       simp only[hh]at hb;obtain⟨rh,V⟩:=fL (P:=P) hh U (Uf _) .slice3B w
       cases lo with
       | none =>
        cases G with
        | some _=>exact E.elim
        | none =>
         simp[mM]at hb;obtain⟨rfl,rfl,rfl⟩:=hb;exact⟨by simp[Instr.sliceBounds,rm,rh],by omega,V,af,by simp⟩
       | some lv =>
        cases G with
        | none=>exact E.elim
        | some ae =>
         cases hl:bound (some lv) 0 hn with
         | none=>simp[hl]at hb
         | some n =>
          simp[hl]at hb;obtain⟨rfl,rfl,rfl⟩:=hb;obtain⟨r,hr⟩:=fL (P:=P) hl E (Uf _) .slice3C w;exact⟨by simp[Instr.sliceBounds,rm,rh,r],hr,V,af,by simp⟩
theorem Gw{t:TI}{x x':Value}{lo hi mx ae af ad:OV}{v:Value}(h:kY P t x lo hi mx=some v)(hx:VRel σ x x')
  (W:FJ σ lo ae) (aa:FJ σ hi af) (ac:FJ σ mx ad) (w:World):∃v',(Instr.sliceAt t x' ae af ad).run P w = .ok v' w/\VRel σ v v':=by
 unfold kY at h
 split at h
 ·rename_i s hu
  obtain rfl:=hx.string_inv
  cases mx with
  | some _=>simp at h
  | none =>
   cases ad with
   | some _=>exact ac.elim
   | none =>
    simp only at h
    split at h
    ·rename_i l O m hb
     simp at h;subst h;obtain⟨r,_⟩:=iM (P:=P) hb (Uf _) (Uf _) W aa (show FJ σ none none from trivial) false w;exact⟨_,by simp[Instr.sliceAt,Instr.slice,run_underlying hu,r],.string _⟩
    ·simp at h
 ·rename_i el len c hu
  obtain⟨rfl,rfl,rfl⟩:=hx.snil_inv
  split at h
  ·rename_i l O m n hb hs
   simp at h;subst h;obtain⟨r,h1,h2,h3,h4⟩:=iM (P:=P) hb (Uf _) (Uf _) W aa ac true w;have e1:m=0:=by omega
   have e2:O=0:=by omega
   have e3:l=0:=by omega
   subst e1;subst e2;subst e3;refine⟨.slice none 0 0,?_,.snil⟩;simp[Instr.sliceAt,Instr.slice,run_underlying hu,r,cT hs]
  ·simp at h
 ·rename_i el b o sp len c hu
  obtain⟨a',c',e,rfl,he,hl,hc,ha,ag⟩:=hx.slice_inv;simp only at he ha ag
  split at h
  ·rename_i l O m n hb hs
   obtain⟨r,h1,h2,h3,h4⟩:=iM (P:=P) hb hl hc W aa ac true w;have U:c'≠0->a'.add (l * n)=⟨e.rb,e.ro+(o+l * n),none⟩:=by
    intro h0;rcases ha with ah | rfl
    ·exact absurd ah h0
    ·rw[add_plain];simp[Vw]
   by_cases hm:mx.isSome=true
   ·simp only[hm,if_true]at h r;simp at h;subst h;refine⟨.slice (some (if m=l then a' else a'.add (l * n))) (O - l) (m - l),?_,.sexact b (o+l * n) (O - l) (m - l) e _ he (by omega) ?_⟩
    ·by_cases E:m=l <;> simp[Instr.sliceAt,Instr.slice,run_underlying hu,r,cT hs,E]
    ·by_cases E:m=l
     ·left;omega
     ·right;rw[if_neg E];exact U (by omega)
   ·simp only[hm,if_false,VA]at h r;have ai:m=c:=h4 (by cases mx <;> simp_all);subst ai
    split at h
    ·rename_i G
     simp at h;subst h;refine⟨.slice (some (if c'=l then a' else a'.add (l * n))) (O - l) (c' - l),?_,?_⟩
     ·by_cases E:c'=l
      ·subst E;simp[Instr.sliceAt,Instr.slice,run_underlying hu,r,cT hs]
      ·simp[Instr.sliceAt,Instr.slice,run_underlying hu,r,cT hs,E]
     ·rcases ag with ⟨V,aj⟩ | ⟨k,V,hk⟩
      ·subst aj;rw[V];refine .sexact b (o+l * n) (O - l) (m - l) e _ he (by omega) ?_;by_cases E:m=l
       ·left;omega
       ·right;rw[if_neg E];exact U (by omega)
      ·rcases G with G | G
       ·rw[V]at G;simp at G
       ·rw[V]at G;simp at G;subst G;rw[V];refine .sopen b (o+l * k) k (O - l) (m - l) (c' - l) e _ he (by omega) (by omega) ?_;by_cases E:c'=l
        ·left;omega
        ·right;rw[if_neg E]
         refine⟨U (by omega),?_⟩;have hb:e.ro+o+c' * k<=e.rs:=by rcases hk with hk | hk <;> first | omega | exact hk
         have:l * k+(c' - l) * k=c' * k:=by rw[<-Vb];congr 1;omega
         omega
    ·simp at h
  ·simp at h
 ·rename_i len el b o hu
  obtain⟨_,e,he,rfl⟩:=hx.ptr_inv
  split at h
  ·rename_i l O m n hb hs
   simp at h;subst h;obtain⟨r,h1,h2,h3,h4⟩:=iM (P:=P) hb (Uf _) (Uf _) W aa ac false w;have hr:(if mx.isSome=true then m else len)=m:=by
    cases mx with
    | none=>simp[h4 rfl]
    | some _=>simp
   rw[hr]at r;refine⟨.slice (some (if m=l then⟨e.rb,e.ro+o,none⟩ else(⟨e.rb,e.ro+o,none⟩:Addr).add (l * n))) (O - l) (m - l),?_,.sexact b (o+l * n) (O - l) (m - l) e _ he (by omega) ?_⟩
   ·simp[Instr.sliceAt,run_underlying hu,r,cT hs,Instr.sureAddr]
   ·by_cases E:m=l
    ·left;omega
    ·right;rw[if_neg E,add_plain];simp[Vw]
  ·simp at h
 ·simp at h
theorem zE{e:En}{o n:Nat}{f:Field}(hs:size? P f.type=some n)(E:n≠0)(w:World):
  (fieldPlace ⟨e.rb,e.ro+o,none⟩ f).run P w = .ok ⟨e.rb,e.ro+(o+f.offset),none⟩ w:=by
 simp[fieldPlace,cT hs,E,add_plain,Vw]
theorem zR{s:TI}{x x':Value}{f:Nat}{v:Value}(h:pC P s x f=some v)(O:VRel σ x x')(w:World):
  ∃v',(Instr.fieldAt s x' f).run P w = .ok v' w/\VRel σ v v':=by
 unfold pC at h
 split at h
 ·rename_i fs b o hu
  obtain⟨_,e,he,rfl⟩:=O.ptr_inv
  cases E:fs[f]? with
  | none=>simp[E]at h
  | some fd =>
   simp only[E]at h
   cases hs:size? P fd.type with
   | none=>simp[hs]at h
   | some n =>
    simp only[hs]at h;by_cases G:n=0
    ·simp[G]at h
    ·simp[G,ptr]at h;subst h;exact⟨_,by simp[Instr.fieldAt,run_underlying hu,E,Instr.sureAddr,zE hs G],.ptr b (o+fd.offset) e he⟩
 ·simp at h
theorem zQ{t:TI}{x x' ix G:Value}{v:Value}(h:pB P t x ix=some v)(U:VRel σ x x')(hi:VRel σ ix G)(w:World):
  ∃v',(Instr.indexAt t x' G).run P w = .ok v' w/\VRel σ v v':=by
 unfold pB at h
 split at h
 ·rename_i k i
  obtain rfl:=hi.int_inv
  split at h
  ·rename_i len el b o hu
   obtain⟨_,e,he,rfl⟩:=U.ptr_inv;by_cases E:0<=i/\i < (len:Int)
   ·rw[if_pos E]at h
    cases hs:size? P el with
    | none=>simp[hs]at h
    | some n =>
     simp[hs,ptr]at h;subst h;refine⟨.pointer (some ⟨e.rb,e.ro+(o+i.toNat * n),none⟩),?_,.ptr b (o+i.toNat * n) e he⟩;simp[Instr.indexAt,asIntOf,run_underlying hu,Instr.sureAddr,E,cT hs,add_plain,Vw]
   ·simp[E]at h
  ·rename_i el b o sp len c hu
   obtain⟨a',c',e,rfl,he,hl,W,V,_⟩:=U.slice_inv;simp only at he V;by_cases E:0<=i/\i < (len:Int)
   ·rw[if_pos E]at h
    cases hs:size? P el with
    | none=>simp[hs]at h
    | some n =>
     simp[hs,ptr]at h;subst h;have O:a'=⟨e.rb,e.ro+o,none⟩:=by rcases V with h0 | h0 <;> first | omega | exact h0
     subst O;refine⟨.pointer (some ⟨e.rb,e.ro+(o+i.toNat * n),none⟩),?_,.ptr b (o+i.toNat * n) e he⟩;simp[Instr.indexAt,asIntOf,run_underlying hu,E,cT hs,add_plain,Vw]
   ·simp[E]at h
  ·simp at h
 ·simp at h
theorem HA{t:TI}{x x':Value}{f:Nat}{v:Value}(h:HB P t x f=some v)(G:VRel σ x x')(w:World):
  ∃v',(Instr.field t x' f).run P w = .ok v' w/\VRel σ v v':=by
 unfold HB at h
 split at h
 ·rename_i fs cs hu
  obtain⟨O,rfl,U⟩:=G.agg_inv
  cases E:fs[f]? with
  | none=>simp[E]at h
  | some fd =>
   simp only[E]at h;obtain⟨v',hr,V⟩:=nU h U w;exact⟨v',by simp[Instr.field,run_underlying hu,E,asAgg,hr],V⟩
 ·simp at h
theorem Gz{t:TI}{x x' ix G:Value}{v:Value}(h:Cj P t x ix=some v)(O:VRel σ x x')(hi:VRel σ ix G)(w:World):
  ∃v',(Instr.index t x' G).run P w = .ok v' w/\VRel σ v v':=by
 unfold Cj at h
 split at h
 ·rename_i k i
  obtain rfl:=hi.int_inv
  split at h
  ·rename_i len el cs hu
   obtain⟨U,rfl,V⟩:=O.agg_inv;by_cases E:0<=i/\i < (len:Int)
   ·rw[if_pos E]at h
    cases hs:size? P el with
    | none=>simp[hs]at h
    | some n =>
     simp only[hs]at h;obtain⟨v',hr,W⟩:=nU h V w;exact⟨v',by simp[Instr.index,asIntOf,run_underlying hu,E,cT hs,hr],W⟩
   ·simp[E]at h
  ·rename_i s hu
   obtain rfl:=O.string_inv;by_cases E:0<=i
   ·rw[if_pos E]at h
    cases hs:s[i.toNat]? with
    | none=>simp[hs]at h
    | some b =>
     simp[hs]at h;subst h;exact⟨_,by simp[Instr.index,asIntOf,run_underlying hu,E,hs],.int _ _⟩
   ·simp[E]at h
  ·simp at h
 ·simp at h
theorem NV{t:TI}{x x' v:Value}(h:Gy P t x=some v)(O:VRel σ x x'){U:Array TI}{as:AV}{ty:TI}(E:U[0]? = some t)(G:as[0]? = some x')(w:World):
  (Builtin.len_ U ty as).run P w = .ok v w:=by
 have e1:(U[0]?,as[0]?)=(some t,some x'):=by rw[E,G]
 unfold Gy at h
 split at h
 ·rename_i s hu;obtain rfl:=O.string_inv;simp at h;subst h;simp[Builtin.len_,E,G,run_underlying hu,goInt]
 ·rename_i n el hu;simp at h;subst h;simp[Builtin.len_,E,G,run_underlying hu,goInt]
 ·rename_i el a n c hu
  simp at h;subst h
  cases a with
  | none=>obtain⟨rfl,rfl,rfl⟩:=O.snil_inv;simp[Builtin.len_,E,G,run_underlying hu,goInt]
  | some a=>obtain⟨a',c',e,rfl,_⟩:=O.slice_inv;simp[Builtin.len_,E,G,run_underlying hu,goInt]
 ·rename_i k el hu;obtain rfl:=O.mnil_inv;simp at h;subst h;simp[Builtin.len_,E,G,run_underlying hu,goInt]
 ·rename_i arr hu
  split at h
  ·rename_i n el V;simp at h;subst h;simp[Builtin.len_,E,G,run_underlying hu,run_underlying V,goInt]
  ·simp at h
 ·simp at h
theorem Na{t:TI}{x x' v:Value}(h:Pg P t x=some v)(E:VRel σ x x'){G:Array TI}{as:AV}{ty:TI}(O:G[0]? = some t)(U:as[0]? = some x')(w:World):
  (Builtin.cap_ G ty as).run P w = .ok v w:=by
 unfold Pg at h
 split at h
 ·rename_i el hu
  simp at h;subst h;obtain⟨_,_,rfl⟩:=E.snil_inv;simp[Builtin.cap_,O,U,run_underlying hu,goInt]
 ·rename_i el b o l c hu
  simp at h;subst h
  cases E with
  | sexact b o l c e a hb hl V=>simp[Builtin.cap_,O,U,run_underlying hu,goInt]
 ·simp at h
theorem KY{src dst:TI}{x x' v:Value}(h:Eu P src dst x=some v)(O:VRel σ x x')(w:World):(convert src dst x').run P w = .ok v w:=by
 unfold Eu at h
 split at h
 ·rename_i d k U n E G
  obtain rfl:=O.int_inv;simp at h;subst h;simp[convert,run_underlying E,run_underlying G,Conv.intToInt]
 ·rename_i d s E G
  obtain rfl:=O.string_inv;simp at h;subst h;simp[convert,run_underlying E,run_underlying G]
 ·simp at h
theorem NT{x y x' G v:Value}(h:NU x y=some v)(O:VRel σ x x')(U:VRel σ y G)(w:World):(Builtin.max2 x' G).run P w = .ok v w:=by
 unfold NU at h
 split at h
 ·obtain rfl:=O.int_inv;obtain rfl:=U.int_inv
  split at h
  ·rename_i k a W b V
   subst V;simp at h;subst h;simp only[Builtin.max2,Sem.run_pure];by_cases E:a>=b
   ·rw[if_pos E,if_neg (by omega)]
   ·rw[if_neg E,if_pos (by omega)]
  ·simp at h
 ·simp at h
theorem NR{x y x' G v:Value}(h:NS x y=some v)(O:VRel σ x x')(U:VRel σ y G)(w:World):(Builtin.min2 x' G).run P w = .ok v w:=by
 unfold NS at h
 split at h
 ·obtain rfl:=O.int_inv;obtain rfl:=U.int_inv
  split at h
  ·rename_i k a W b V
   subst V;simp at h;subst h;simp only[Builtin.min2,Sem.run_pure];by_cases E:a<=b
   ·rw[if_pos E];first | rw[if_neg (by omega)] | rw[if_pos (by omega)] | skip
   ·rw[if_neg E];first | rw[if_pos (by omega)] | rw[if_neg (by omega)] | skip
  ·simp at h
 ·simp at h
end
section
variable {P:Program} {σ:Sg}
theorem gC{cs vs:LV}{o:Nat}(h:o+vs.length<=cs.length):(splice cs o vs).length=cs.length:=by
 simp[splice];omega
theorem fI{cs vs:LV}{o:Nat}(h:o+vs.length<=cs.length)(i:Nat):
  (splice cs o vs)[i]? = if o<=i/\i < o+vs.length then vs[i - o]? else cs[i]?:=by
 unfold splice;by_cases E:i < o
 ·rw[if_neg (by omega),Ut,VQ (by simp;omega),VZ,if_pos E]
 ·by_cases G:i < o+vs.length
  ·rw[if_pos ⟨by omega,G⟩,VQ (by simp;omega),VN (by simp;omega)];congr 1;simp;omega
  ·rw[if_neg (by omega),VN (by simp;omega),Vp];congr 1;simp;omega
theorem bK.splice{cs E vs G:LV}{o:Nat}(h:bK σ cs E)(O:bK σ vs G):bK σ (splice cs o vs) (splice E o G):=by
 unfold Cn.splice;rw[<-O.1];exact((h.take o).append O).append (h.drop _)
theorem BL(off:Nat):∀(vs:LV) (k:Nat) (cells:AV),off+k+vs.length<=cells.size->
  ((vs.zipIdx k).foldl (fun cs (p:Value×Nat)=>cs.setIfInBounds (off+p.2) p.1) cells).toList=Cn.splice cells.toList (off+k) vs
 | [],k,cells,h=>by simp[Cn.splice]
 | v::vs,k,cells,h=>by
  simp only[Ux]at h;simp only[WR,Vx];rw[BL off vs (k+1) (cells.setIfInBounds (off+k) v) (by simp;omega)];apply Vi;intro i;rw[fI (by simp;omega),fI (by simp;omega)];simp only[Ux];by_cases E:i=off+k
  ·subst E;rw[if_neg (by omega),if_pos (by omega)];simp[show off+k < cells.size by omega]
  ·by_cases G:off+k<=i/\i < off+k+(vs.length+1)
   ·rw[if_pos (by omega),if_pos G,show i - (off+k)=(i - (off+(k+1)))+1 by omega,Vd]
   ·rw[if_neg (by omega),if_neg G];simp[Array.toList_setIfInBounds,Wq (Ne.symm E)]
def QD(σ:Sg):List (Nat×Value)->List (Nat×Value)->Prop
 | [],[]=>True
 | (i,x)::l,(j,y)::m=>i=j/\VRel σ x y/\QD σ l m
 | _,_=>False
theorem tX{E:Nat->Option (Nat×Nat)}:∀{parts uW:List (Nat×Value)} {cells:LV} {pD:AV} {l:LV},
  tY E cells parts=some l->bK σ cells pD.toList->QD σ parts uW->∃l',Instr.fill E pD uW=some l'/\bK σ l l'.toList
 | [],[],cells,pD,l,h,U,_=>by simp[tY]at h;subst h;exact⟨pD,rfl,U⟩
 | (i,x)::ps,(j,y)::qs,cells,pD,l,h,U,hp=>by
  obtain⟨rfl,V,hp⟩:=hp;simp only[tY]at h
  cases O:E i with
  | none=>simp[O]at h
  | some os =>
   obtain⟨off,size⟩:=os;simp only[O]at h
   split at h
   ·simp at h
   ·rename_i G
    simp only[Vh,decide_eq_true_eq,not_or,ne_eq,Vr]at G;obtain⟨⟨hu,W⟩,hle⟩:=G;have dI:=V.cells hu;have aa:x.cells.size=size:=by simpa using W
    have ac:y.cells.size=x.cells.size:=by simpa using dI.1.symm
    have hlen:cells.length=pD.size:=by simpa using U.1
    obtain⟨l',h1,h2⟩:=tX (pD:=y.cells.zipIdx.foldl (fun cs (p:Value×Nat)=>cs.setIfInBounds (off+p.2) p.1) pD) h (by
     rw[<-Array.foldl_toList,Array.toList_zipIdx,BL off y.cells.toList 0 pD (by simp;omega)];exact bK.splice U dI) hp
    refine⟨l',?_,h2⟩;simp only[Instr.fill,O];rw[if_neg (by simp;omega)];exact h1
 | [],_::_,_,_,_,_,_,hp=>hp.elim
 | _::_,[],_,_,_,_,_,hp=>hp.elim
theorem zJ{tm:LV}{a:Act}(h:eM σ tm a.tmps):∀(ps:List (Nat×Operand)),QD σ (ps.map fun(i,x)=>(i,ev tm x)) (ps.map fun(i,x)=>(i,a.eval x))
 | []=>trivial
 | (i,x)::ps=>⟨rfl,kX h x,zJ h ps⟩
theorem yF(w:World):∀(fs:List Field) (l:List (Nat×Nat)),fs.mapM (fun f=>(size? P f.type).map fun n=>(f.offset,n))=some l->
  (fs.mapM (fun f=>do pure (f.offset,<-sizeOf f.type):Field->Sem (Nat×Nat))).run P w = .ok l w
 | [],l,h=>by simp at h;subst h;simp
 | f::fs,l,h=>by
  rw[List.mapM_cons]at h;simp only[bind,WT,pure,Um,VD]at h;obtain⟨p,⟨n,O,rfl⟩,l',E,rfl⟩:=h;have G:=yF w fs l' E;simp[List.mapM_cons,cT O];simp at G;simp[G]
def FO(z:Value):Bool:=plainV 100 z
theorem sX{z:Value}(h:FO z=true):bK σ z.cells.toList z.cells.toList:=by
 have E:=lZ σ 100 z h;refine E.cells ?_
 cases z <;> first | rfl | skip
 rename_i vs
 simp only[FO,plainV,Uw]at h;simpa[fR]using h.1
theorem HF{t:TI}{parts:List (Nat×Value)}{uW:Array (Nat×Value)}{v:Value}(h:HG P t parts=some v)(hp:QD σ parts uW.toList)(w:World):
  ∃v',(Instr.build t uW).run P w = .ok v' w/\VRel σ v v':=by
 unfold HG at h
 cases U:zero? P t with
 | none=>simp[U]at h
 | some z =>
  simp only[U]at h
  split at h
  ·simp at h
  ·rename_i V
   have G:bK σ z.cells.toList z.cells.toList:=sX (by simpa[FO]using V)
   split at h
   ·rename_i fs hu
    split at h
    ·rename_i E W
     simp only[VD]at h;obtain⟨l,hl,rfl⟩:=h;obtain⟨l',h1,h2⟩:=tX hl G hp;have O:=yF (P:=P) w fs.toList E W;refine⟨.agg l',?_,?_⟩
     ·simp only[Instr.build,Sem.run_bind,gO U,Result.andThen_ok,run_underlying hu,Array.mapM_eq_mapM_toList,Sem.run_map,O];have e:(fun x:Nat=>(E.toArray)[x]?)=fun x=>E[x]?:=by funext x;simp
      simp[e,h1]
     ·have:=h2.to_agg;simpa using this
    ·simp at h
   ·rename_i n el hu
    cases hs:size? P el with
    | none=>simp[hs]at h
    | some n =>
     simp only[hs,VD]at h;obtain⟨l,hl,rfl⟩:=h;obtain⟨l',h1,h2⟩:=tX hl G hp;refine⟨.agg l',?_,?_⟩
     ·simp[Instr.build,gO U,run_underlying hu,cT hs,h1]
     ·have:=h2.to_agg;simpa using this
   ·simp at h
theorem Oy{tm:LV}{a:Act}(U:eM σ tm a.tmps)(o:Oper){v:Value}(h:pop P tm o.op=some v)(w:World):
  ∃v',(execOp a.eval o).run P w = .ok (.value v') w/\VRel σ v v':=by
 obtain⟨dst,op,ty,pos,after,guard⟩:=o;have ev:=fun x=>kX U x;unfold pop at h;simp only at h
 split at h
 ·rename_i x;simp at h;subst h;exact⟨_,by simp[execOp],ev x⟩
 ·rename_i x;simp at h;subst h;exact⟨_,by simp[execOp],ev x⟩
 ·rename_i c x y
  have hc:=ev c
  split at h
  ·rename_i e;rw[e]at hc;simp at h;subst h;exact⟨_,by simp[execOp,hc.bool_inv,asBool],ev x⟩
  ·rename_i e;rw[e]at hc;simp at h;subst h;exact⟨_,by simp[execOp,hc.bool_inv,asBool],ev y⟩
  ·simp at h
 ·rename_i x
  have E:=ev x
  split at h
  ·rename_i p e;rw[e]at E;simp at h;subst h
   obtain⟨b,o,s⟩:=p;obtain⟨rfl,en,he,e2⟩:=E.ptr_inv;exact⟨_,by simp[execOp,e2],.ptr b o en he⟩
  ·rename_i t u e;rw[e]at E;simp at h;subst h
   obtain⟨u',e2,hu⟩:=E.iface_inv;exact⟨_,by simp[execOp,e2],.iface t u u' hu⟩
  ·rename_i f p q e;rw[e]at E;simp at h;subst h
   obtain⟨p',q',e2,V,h2⟩:=E.func_inv rfl;exact⟨_,by simp[execOp,e2],.func _ _ _ _ _ rfl V.1 h2.1 V.2 h2.2⟩
  ·simp at h
 ·rename_i op t x y yt
  have:=Nc h (ev x) (ev y) w;refine⟨v,?_,?_⟩
  ·simp at this;simp only[execOp,Sem.run_bind,Sem.run_pure];generalize Sem.run P (eqGuard op t x y (a.eval x) (a.eval y)) w=r at this
   cases r with
   | ok u w1=>simp at this;simp[this]
   | halt e w1=>simp at this
  ·have known:∀{b:Bool},VRel σ (.bool b) (.bool b):=.bool _;unfold wW at h
   split at h
   ·split at h
    ·unfold shift at h;split at h <;> simp at h;subst h;exact .int _ _
    ·unfold shift at h;split at h <;> simp at h;subst h;exact .int _ _
    ·split at h
     ·unfold BH at h;split at h <;> simp at h <;> first | (subst h;constructor;done) | (obtain⟨_,rfl⟩:=h;constructor)
     ·simp at h
   ·unfold Aj at h;split at h <;> simp at h <;> first | (subst h;constructor;done) | (obtain⟨_,rfl⟩:=h;constructor)
   ·simp at h
   ·simp at h
   ·split at h
    ·split at h
     ·simp only[VD]at h;obtain⟨r,_,rfl⟩:=h;exact .bool _
     ·simp at h
    ·split at h
     ·simp only[VD]at h;obtain⟨r,_,rfl⟩:=h;exact .bool _
     ·simp at h
    ·simp at h
 ·rename_i op t x
  refine⟨v,by simp[execOp,Pe h (ev x) w],?_⟩;unfold Tk at h
  split at h <;> simp at h <;> subst h <;> constructor
 ·rename_i s d x
  refine⟨v,by simp[execOp,KY h (ev x) w],?_⟩;unfold Eu at h
  split at h <;> simp at h <;> subst h <;> constructor
 ·rename_i t x
  split at h
  ·simp at h
  ·simp at h
  ·rename_i d hd hu
   simp at h;subst h;refine⟨.iface t (a.eval x),?_,.iface _ _ _ (ev x)⟩;simp only[execOp,Instr.makeInterface,Sem.run_bind,run_underlying hu,Result.andThen_ok]
   cases d <;> first | rfl | (exact absurd rfl (hd _))
 ·rename_i fn first captured
  split at h
  ·simp at h
  rename_i hf
  simp at h;subst h;have V:=Cc U first;have h2:=Cc U captured;exact⟨_,by simp[execOp,Instr.makeFunc],.func _ _ _ _ _ (by simpa using hf) V.1 h2.1 V.2 h2.2⟩
 ·rename_i t x lo hi mx
  obtain⟨v',hr,G⟩:=Gw h (ev x) (Gr U lo) (Gr U hi) (Gr U mx) w;exact⟨v',by simp[execOp,hr],G⟩
 ·rename_i s x f
  obtain⟨v',hr,G⟩:=zR h (ev x) w;exact⟨v',by simp[execOp,hr],G⟩
 ·rename_i t x f
  obtain⟨v',hr,G⟩:=HA h (ev x) w;exact⟨v',by simp[execOp,hr],G⟩
 ·rename_i t x ix
  obtain⟨v',hr,G⟩:=zQ h (ev x) (ev ix) w;exact⟨v',by simp[execOp,hr],G⟩
 ·rename_i t x ix
  obtain⟨v',hr,G⟩:=Gz h (ev x) (ev ix) w;exact⟨v',by simp[execOp,hr],G⟩
 ·rename_i t parts
  obtain⟨v',hr,G⟩:=HF (uW:=parts.map fun(i,x)=>(i,a.eval x)) h (by simpa using zJ U parts.toList) w;exact⟨v',by simp[execOp,hr],G⟩
 ·rename_i x i
  have E:=ev x
  split at h
  ·rename_i vs e
   rw[e]at E
   split at h
   ·rename_i V
    split at h
    ·rename_i b hb
     split at h
     ·rename_i h0
      subst h0;simp at h;subst h;have ad:vs = #[.bool b]:=by
       apply Array.ext_getElem?;intro j
       cases j with
       | zero=>simp[hb]
       | succ j=>simp[V]
      subst ad;exact⟨_,by simp[execOp,Instr.extract,E.one_inv],.bool b⟩
     ·simp at h
    ·simp at h
   ·rename_i V
    obtain⟨af,e2,hr⟩:=E.tuple_inv V;obtain⟨y,hy,G⟩:=hr.get h;exact⟨y,by simp[execOp,Instr.extract,e2,hy],G⟩
  ·simp at h
 ·rename_i args O
  split at h
  ·rename_i t ts x xs e1 e2
   have W:O[0]? = some t:=by rw[<-VR,e1];rfl
   have aa:(args.map a.eval)[0]? = some (a.eval x):=by rw[Wh,<-VR,e2];rfl
   refine⟨v,?_,?_⟩
   ·simp[execOp,resolve,invoke,builtin,NV h (ev x) W aa w]
   ·unfold Gy at h
    split at h <;> first | (simp at h;subst h;constructor;done) | (split at h <;> simp at h;subst h;constructor) | simp at h
  ·simp at h
 ·rename_i args O
  split at h
  ·rename_i t ts x xs e1 e2
   have W:O[0]? = some t:=by rw[<-VR,e1];rfl
   have aa:(args.map a.eval)[0]? = some (a.eval x):=by rw[Wh,<-VR,e2];rfl
   refine⟨v,?_,?_⟩
   ·simp[execOp,resolve,invoke,builtin,Na h (ev x) W aa w]
   ·unfold Pg at h
    split at h <;> first | (simp at h;subst h;constructor;done) | simp at h
  ·simp at h
 ·rename_i args O
  split at h
  ·rename_i x y e
   have he:(args.map a.eval).toList=[a.eval x,a.eval y]:=by simp[e]
   refine⟨v,?_,?_⟩
   ·simp only[execOp,resolve,invoke,builtin,Builtin.max_,Sem.run_bind,Sem.run_pure,Result.andThen_ok,he,List.foldlM_cons,List.foldlM_nil,NT h (ev x) (ev y) w]
   ·unfold NU at h
    split at h <;> first | (split at h <;> simp at h;subst h;constructor) | simp at h
  ·simp at h
 ·rename_i args O
  split at h
  ·rename_i x y e
   have he:(args.map a.eval).toList=[a.eval x,a.eval y]:=by simp[e]
   refine⟨v,?_,?_⟩
   ·simp only[execOp,resolve,invoke,builtin,Builtin.min_,Sem.run_bind,Sem.run_pure,Result.andThen_ok,he,List.foldlM_cons,List.foldlM_nil,NR h (ev x) (ev y) w]
   ·unfold NS at h
    split at h <;> first | (split at h <;> simp at h;subst h;constructor) | simp at h
  ·simp at h
 ·rename_i arr x
  have E:=ev x
  split at h
  ·rename_i n el b o sp l c hu he
   rw[he]at E
   split at h
   ·rename_i hn
    simp at h;subst h;obtain⟨a',c',e,e2,hb,ag,ah,ha,_⟩:=E.slice_inv;simp only at hb ha;have ae:a'=⟨e.rb,e.ro+o,none⟩:=by
     rcases ha with h0 | h0
     ·omega
     ·exact h0
    subst ae;refine⟨.pointer (some ⟨e.rb,e.ro+o,none⟩),?_,.ptr b o e hb⟩;have:¬l < n:=by omega
    simp[execOp,Instr.arrayAt,e2,run_underlying hu,this]
   ·simp at h
  ·simp at h
 ·rename_i x xt as ok
  have E:=ev x
  split at h
  ·simp at h
  ·rename_i d t v ac hu he
   rw[he]at E
   split at h
   ·rename_i U
    subst U;simp at h;subst h;obtain⟨v',e2,G⟩:=E.iface_inv
    cases ok with
    | true =>
     refine⟨.tuple #[v',.bool true],?_,?_⟩
     ·simp only[execOp,Instr.typeAssert,Sem.run_bind,run_underlying hu,Result.andThen_ok,e2]
      cases d <;> first | (exact absurd rfl (ac _)) | simp
     ·refine .tuple _ _ rfl (by simp) ?_;intro i x y E hy
      match i with
      | 0=>simp at E hy;subst E;subst hy;exact G
      | 1=>simp at E hy;subst E;subst hy;exact .bool _
      | n+2=>simp at E
    | false =>
     refine⟨v',?_,G⟩;simp only[execOp,Instr.typeAssert,Sem.run_bind,run_underlying hu,Result.andThen_ok,e2]
     cases d <;> first | (exact absurd rfl (ac _)) | simp
   ·simp at h
  ·simp at h
 ·simp at h
end
def sideOf(base rb:Nat):ON->Prop
 | none=>rb < base
 | some _=>base<=rb
structure Lies(base:Nat)(σ:Sg)(w:World)(e:En)(cs:LV)(g:ON):Prop where
 ex:∃c el fr,w.heap[e.rb]? = some (.cells c el fr)/\c.size=e.rs/\e.ro+cs.length<=e.rs/\
  (∀(i:Nat) v,cs[i]? = some v->∃v',c[e.ro+i]? = some v'/\VRel σ v v')/\(g.isSome=true->∀j,j < e.rs->¬(fr.1<=j/\j < fr.2))
 side:sideOf base e.rb g
inductive ERel (σ:Sg):List MapEntry->List MapEntry->Prop where
 | nil:ERel σ [] []
 | cons (x y:MapEntry) (l l':List MapEntry):y.born=x.born->VRel σ x.key y.key->VRel σ x.val y.val->ERel σ l l'->ERel σ (x::l) (y::l')
theorem ERel.mono{σ cE:Sg}(h:σ.le cE){l l':List MapEntry}(e:ERel σ l l'):ERel cE l l':=by
 induction e with
 | nil=>exact .nil
 | cons x y l l' E G O _ U=>exact .cons x y l l' E (G.mono h) (O.mono h) U
def fY(σ:Sg):Ob->Obj->Prop
 | .map es c,.map es' c'=>c'=c/\ERel σ es es'.toList
 | .iter m since seen st,.mapIter m' since' seen' st'=>since'=since/\st'=st/\seen'.toList=seen/\(match (generalizing:=false) m with
  | none=>m'=none
  | some b=>∃e,σ b=some e/\m'=some e.rb)
 | .loop r,.loop r'=>r'.state=r.state/\r'.pending=r.pending/\eM σ r.tm r'.tmps/\r'.params.toList=r.params/\r'.assign=r.assign/\r'.body=r.body
 | _,_=>False
theorem fY.mono{σ cE:Sg}(h:σ.le cE){o:Ob}{r:Obj}(e:fY σ o r):fY cE o r:=by
 unfold fY at e ⊢
 split at e
 ·exact⟨e.1,e.2.mono h⟩
 ·refine⟨e.1,e.2.1,e.2.2.1,?_⟩;have E:=e.2.2.2
  split at E
  ·exact E
  ·obtain⟨G,O,U⟩:=E;exact⟨G,h _ _ O,U⟩
 ·exact⟨e.1,e.2.1,e.2.2.1.mono h,e.2.2.2⟩
 ·exact e.elim
theorem fY.not_cells{σ:Sg}{o:Ob}{c:AV}{t:TI}{fr:Nat×Nat}(e:fY σ o (.cells c t fr)):False:=by
 unfold fY at e
 split at e <;> first | (rename_i h;cases h;done) | exact e
def Oth(base:Nat)(σ:Sg)(h:Hp)(w:World):Prop:=∀b e o,σ b=some e->h.ob b=some o->o.isOth=true->
 base<=e.rb/\e.ro=0/\(∃r,w.heap[e.rb]? = some r/\fY σ o r)/\∀b' e',σ b'=some e'->e'.rb=e.rb->b'=b
def Obj.rowOf:Obj->Bool
 | .cells _ _ _=>true
 | _=>false
theorem fY.not_row{σ:Sg}{o:Ob}{r:Obj}(e:fY σ o r):Obj.rowOf r=false:=by
 cases r <;> first | rfl | exact e.not_cells.elim
theorem Oth.step{base:Nat}{σ cE:Sg}{h h':Hp}{w w':World}(H:Oth base σ h w)(O:σ.le cE)
  (W:∀b e o,cE b=some e->h'.ob b=some o->o.isOth=true->h.ob b=some o/\σ b=some e)
  (hw:∀(k:Nat) (o:Obj),w.heap[k]? = some o->Obj.rowOf o=false->w'.heap[k]? = some o)
  (hn:∀b e,cE b=some e->σ b=none->(∃o,w'.heap[e.rb]? = some o/\Obj.rowOf o=true)\/e.rb < base):Oth base cE h' w':=by
 intro b e o hb ho E;obtain⟨h1,h2⟩:=W b e o hb ho E;obtain⟨p1,p2,⟨r,p3,V⟩,p5⟩:=H b e o h2 h1 E;refine⟨p1,p2,⟨r,hw _ _ p3 V.not_row,V.mono O⟩,fun b' e' G U=>?_⟩
 cases hs:σ b' with
 | some e2 =>
  have:=O _ _ hs;rw[this]at G;cases G;exact p5 b' _ hs U
 | none =>
  rcases hn b' e' G hs with ⟨o2,q1,q2⟩ | q
  ·rw[U,hw _ _ p3 V.not_row]at q1
   cases q1
   rw[V.not_row]at q2;simp at q2
  ·omega
structure HR(base:Nat)(σ:Sg)(h:Hp)(w:World):Prop where
 base_le:base<=w.heap.size
 dom:∀b e,σ b=some e->b < h.next/\e.rb < w.heap.size
 fresh:∀b,h.next<=b->h.ob b=none/\h.gs.get b=none
 cell:∀b e cs t g,σ b=some e->h.ob b=some (.cells cs t g)->h.live b g=true->Lies base σ w e cs g
 grp:∀b cs t g,h.ob b=some (.cells cs t (some g))->g < h.next
 gdom:∀b e cs t g,σ b=some e->h.ob b=some (.cells cs t (some g))->∃e',σ g=some e'
 stack:∀g l,h.gs.get g=some l->∀b∈l,∃cs t,h.ob b=some (.cells cs t (some g))
 nest:∀g l,h.gs.get g=some l->l.Pairwise fun b1 b2=>∀e1 e2 lA kH t1 t2 g1 g2,σ b1=some e1->σ b2=some e2->
  h.ob b1=some (.cells lA t1 g1)->h.ob b2=some (.cells kH t2 g2)->e1.rb=e2.rb->e2.ro+kH.length<=e1.ro+lA.length
 apart:∀b1 b2 e1 e2 lA kH t1 t2 g1 g2,σ b1=some e1->σ b2=some e2->h.ob b1=some (.cells lA t1 (some g1))->h.ob b2=some (.cells kH t2 (some g2))->
  h.live b1 (some g1)=true->h.live b2 (some g2)=true->e1.rb=e2.rb->g1=g2
 oth:Oth base σ h w
structure Ext(base:Nat)(σ:Sg)(h:Hp)(w:World)(cE:Sg)(h':Hp)(w':World):Prop where
 le:σ.le cE
 os:w'.os=w.os
 tape:w'.tape=w.tape
 output:w'.output=w.output
 size:w.heap.size<=w'.heap.size
 below:∀k,k < base->w'.heap[k]? = w.heap[k]?
 other:∀k,k < w.heap.size->(∀b e,σ b=some e->e.rb≠k)->w'.heap[k]? = w.heap[k]?
 img:∀b e,σ b=none->cE b=some e->(∃b0 e0,σ b0=some e0/\e0.rb=e.rb)\/w.heap.size<=e.rb
 next:h.next<=h'.next
 untouched:∀b,b < h.next->σ b=none->h'.ob b=h.ob b/\h'.gs.get b=h.gs.get b/\cE b=none
theorem Ext.refl(base:Nat)(σ:Sg)(h:Hp)(w:World):Ext base σ h w σ h w :=
 ⟨Sg.le_refl σ,rfl,rfl,rfl,Uf _,fun _ _=>rfl,fun _ _ _=>rfl,fun b e G E=>by rw[G]at E;simp at E,Uf _,fun b _ hb=>⟨rfl,rfl,hb⟩⟩
theorem Ext.trans{base:Nat}{σ O aa:Sg}{h W h2:Hp}{w w1 w2:World}(a:Ext base σ h w O W w1)(b:Ext base O W w1 aa h2 w2):Ext base σ h w aa h2 w2:=by
 refine⟨Sg.le_trans a.le b.le,b.os.trans a.os,b.tape.trans a.tape,b.output.trans a.output,Nat.le_trans a.size b.size,fun k hk=>(b.below k hk).trans (a.below k hk),?_,?_,Nat.le_trans a.next b.next,?_⟩
 ·intro k hk U;rw[b.other k (Vj hk a.size) ?_]
  ·exact a.other k hk U
  ·intro b' e' E
   cases hs:σ b' with
   | some e0=>have:=a.le _ _ hs;rw[this]at E;cases E;exact U _ _ hs
   | none =>
    rcases a.img b' e' hs E with ⟨b0,e0,h0,G⟩ | h0
    ·rw[<-G];exact U _ _ h0
    ·omega
 ·intro b' e' hs E
  cases W:O b' with
  | some e1 =>
   have:=b.le _ _ W;rw[this]at E;cases E;exact a.img b' _ hs W
  | none =>
   rcases b.img b' e' W E with ⟨b0,e0,h0,G⟩ | h0
   ·cases V:σ b0 with
    | some af=>have:=a.le _ _ V;rw[this]at h0;cases h0;exact .inl ⟨b0,e0,V,G⟩
    | none =>
     rcases a.img b0 e0 V h0 with ⟨b1,e1,ac,ad⟩ | ac
     ·exact .inl ⟨b1,e1,ac,ad.trans G⟩
     ·right;omega
   ·right;have:=a.size;omega
 ·intro b' ae hs;obtain⟨x1,x2,x3⟩:=a.untouched b' ae hs;obtain⟨y1,y2,y3⟩:=b.untouched b' (Vj ae a.next) x3;exact⟨y1.trans x1,y2.trans x2,y3⟩
theorem HR.drawn{base:Nat}{σ:Sg}{h:Hp}{w w':World}(hr:HR base σ h w)(O:w'.heap=w.heap):HR base σ h w':=by
 refine⟨by rw[O];exact hr.base_le,by rw[O];exact hr.dom,hr.fresh,?_,hr.grp,hr.gdom,hr.stack,hr.nest,hr.apart,
  hr.oth.step (Sg.le_refl σ) (fun b e o E G _=>⟨G,E⟩) (fun k o E _=>by rw[O];exact E) (fun b e E G=>by rw[E]at G;simp at G)⟩
 intro b e cs t g E G U;obtain⟨⟨c,el,fr,V,W⟩,h6⟩:=hr.cell b e cs t g E G U;exact⟨⟨c,el,fr,by rw[O];exact V,W⟩,h6⟩
theorem HR.cellsAt{base:Nat}{σ:Sg}{h:Hp}{w:World}(hr:HR base σ h w){b o n:Nat}{cs:LV}{e:En}(G:h.cellsAt b o n=some cs)(he:σ b=some e):
  cs.length=n/\∃O,O.length=n/\bK σ cs O/\∀(j:Nat) v,O[j]? = some v->w.cell? ((⟨e.rb,e.ro+o,none⟩:Addr).add j)=some v:=by
 unfold Hp.cellsAt at G
 split at G
 ·rename_i W t g aa
  split at G
  ·rename_i E
   simp only[Uw,decide_eq_true_eq]at E;simp at G;subst G;obtain⟨⟨c,el,fr,h1,h2,h3,h4,h5⟩,_⟩:=hr.cell b e W t g he aa E.1;have hlen:((W.drop o).take n).length=n:=by simp;omega
   refine⟨hlen,((c.toList.drop (e.ro+o)).take n),by simp;omega,⟨by rw[hlen];simp;omega,?_⟩,?_⟩
   ·intro i x y hx U;rw[VZ]at hx U
    split at hx
    ·rename_i hi
     rw[if_pos hi,Vp]at U;rw[Vp]at hx;obtain⟨v',ac,ad⟩:=h4 _ _ hx;rw[show e.ro+o+i=e.ro+(o+i) by omega]at U;simp at U;rw[ac]at U;cases U;exact ad
    ·simp at hx
   ·intro j v V;rw[VZ]at V
    split at V
    ·rw[Vp]at V;rw[add_plain];simp at V;simp only[World.cell?,h1];simpa using V
    ·simp at V
  ·simp at G
 ·simp at G
structure WNew(w w':World)(o:Obj):Prop where
 heap:w'.heap=w.heap.push o
 os:w'.os=w.os
 tape:w'.tape=w.tape
 output:w'.output=w.output
def Sg.put(σ:Sg)(b:Nat)(e:En):Sg:=fun b'=>if b'=b then some e else σ b'
theorem Sg.put_le{σ:Sg}{b:Nat}{e:En}(hb:σ b=none):σ.le (σ.put b e):=by
 intro b' e' h';unfold Sg.put
 split
 ·rename_i E;subst E;rw[hb]at h';simp at h'
 ·exact h'
theorem HR.none_next{base:Nat}{σ:Sg}{h:Hp}{w:World}(hr:HR base σ h w){b:Nat}(hb:h.next<=b):σ b=none:=by
 cases hs:σ b with
 | none=>rfl
 | some e=>have:=(hr.dom _ _ hs).1;omega
theorem Hp.live_congr{h h':Hp}{b:Nat}{g:ON}(E:∀x,g=some x->h'.gs.get x=h.gs.get x):h'.live b g=h.live b g:=by
 cases g with
 | none=>rfl
 | some x=>simp only[Hp.live,E x rfl]
theorem HR.alloc{base:Nat}{σ:Sg}{h:Hp}{w w':World}(hr:HR base σ h w){cs:LV}{t:TI}{c:AV}{el:TI}{fr:Nat×Nat}
  (hw:WNew w w' (.cells c el fr)) (ad:cs.length<=c.size) (ae:∀(i:Nat) v,cs[i]? = some v->∃v',c[i]? = some v'/\VRel σ v v') (ag:∀j,j < c.size->¬(fr.1<=j/\j < fr.2)) :
  HR base (σ.put h.next ⟨w.heap.size,0,c.size⟩) (h.alloc cs t) w'/\Ext base σ h w (σ.put h.next ⟨w.heap.size,0,c.size⟩) (h.alloc cs t) w'/\
   (σ.put h.next ⟨w.heap.size,0,c.size⟩) h.next=some ⟨w.heap.size,0,c.size⟩:=by
 have ah:σ h.next=none:=hr.none_next (Uf _);have hle:σ.le (σ.put h.next ⟨w.heap.size,0,c.size⟩):=Sg.put_le ah;have hold:∀k,k < w.heap.size->w'.heap[k]? = w.heap[k]?:=by
  intro k hk;rw[hw.heap,Vs,if_neg (by omega)]
 have G:∀b e,(σ.put h.next ⟨w.heap.size,0,c.size⟩) b=some e->(b=h.next/\e=⟨w.heap.size,0,c.size⟩)\/(b≠h.next/\σ b=some e):=by
  intro b e hb;unfold Sg.put at hb
  split at hb
  ·rename_i hh;left;exact⟨hh,by simpa using hb.symm⟩
  ·rename_i hh;right;exact⟨hh,hb⟩
 have V:h.ob h.next=none:=(hr.fresh _ (Uf _)).1;have an:h.gs.get h.next=none:=(hr.fresh _ (Uf _)).2;have af:Oth base (σ.put h.next ⟨w.heap.size,0,c.size⟩) (h.alloc cs t) w':=by
  refine hr.oth.step hle ?_ ?_ ?_
  ·intro b e o h1 O h3;rw[Hp.ob_alloc]at O;rcases G b e h1 with ⟨rfl,rfl⟩ | ⟨h4,h5⟩
   ·rw[if_pos rfl]at O;cases O;simp[Ob.isOth]at h3
   ·rw[if_neg h4]at O;exact⟨O,h5⟩
  ·intro k o h1 _;rw[hold k (VT.1 h1).1];exact h1
  ·intro b e h1 O;rcases G b e h1 with ⟨rfl,rfl⟩ | ⟨h4,h5⟩
   ·left;exact⟨.cells c el fr,by rw[hw.heap];simp,rfl⟩
   ·rw[h5]at O;simp at O
 refine⟨⟨?_,?_,?_,?_,?_,?_,?_,?_,?_,af⟩,⟨hle,hw.os,hw.tape,hw.output,?_,?_,?_,?_,?_,?_⟩,by simp[Sg.put]⟩
 ·rw[hw.heap];simp;have:=hr.base_le;omega
 ·intro b e hb;rw[hw.heap,Hp.next_alloc];simp;rcases G b e hb with ⟨rfl,rfl⟩ | ⟨_,O⟩
  ·simp
  ·have:=hr.dom _ _ O;omega
 ·intro b hb;rw[Hp.next_alloc]at hb;rw[Hp.ob_alloc,Hp.gs_alloc,if_neg (by omega)];exact hr.fresh b (by omega)
 ·intro b e U t' g hb E hl;rw[Hp.ob_alloc]at E;rw[show(h.alloc cs t).live b g=h.live b g from Hp.live_congr fun _ _=>rfl]at hl;rcases G b e hb with ⟨rfl,rfl⟩ | ⟨h1,O⟩
  ·rw[if_pos rfl]at E
   cases E
   refine⟨⟨c,el,fr,by rw[hw.heap];simp,rfl,by simpa using ad,?_,fun _=>ag⟩,hr.base_le⟩;intro i v hv;obtain⟨v',h3,h4⟩:=ae i v hv;exact⟨v',by simpa using h3,h4.mono hle⟩
  ·rw[if_neg h1]at E;obtain⟨⟨c0,ai,aj,h3,h4,h5,h6,h7⟩,h8⟩:=hr.cell b e U t' g O E hl;refine⟨⟨c0,ai,aj,by rw[hold _ (hr.dom _ _ O).2];exact h3,h4,h5,?_,h7⟩,h8⟩;intro i v hv;obtain⟨v',h9,ak⟩:=h6 i v hv;exact⟨v',h9,ak.mono hle⟩
 ·intro b U t' g E;rw[Hp.ob_alloc]at E;rw[Hp.next_alloc]
  split at E
  ·cases E;omega
  ·have:=hr.grp b U t' g E;omega
 ·intro b e U t' g hb E;rw[Hp.ob_alloc]at E;rcases G b e hb with ⟨rfl,rfl⟩ | ⟨h1,O⟩
  ·rw[if_pos rfl]at E;cases E;exact⟨_,hb⟩
  ·rw[if_neg h1]at E;obtain⟨e',al⟩:=hr.gdom b e U t' g O E;exact⟨e',hle _ _ al⟩
 ·intro g l hg b hb;rw[Hp.gs_alloc]at hg;obtain⟨U,t',E⟩:=hr.stack g l hg b hb;refine⟨U,t',?_⟩;rw[Hp.ob_alloc,if_neg ?_]
  ·exact E
  ·rintro rfl;rw[V]at E;simp at E
 ·intro g l hg;rw[Hp.gs_alloc]at hg;refine(hr.nest g l hg).imp_of_mem fun {b1 b2} m1 m2 hp=>?_;intro e1 e2 lA kH t1 t2 g1 g2 s1 s2 o1 o2;have n1:b1≠h.next:=by rintro rfl;obtain⟨_,_,hx⟩:=hr.stack g l hg _ m1;rw[V]at hx;simp at hx
  have n2:b2≠h.next:=by rintro rfl;obtain⟨_,_,hx⟩:=hr.stack g l hg _ m2;rw[V]at hx;simp at hx
  rcases G b1 e1 s1 with ⟨e,_⟩ | ⟨_,aa⟩
  ·exact absurd e n1
  ·rcases G b2 e2 s2 with ⟨e,_⟩ | ⟨_,W⟩
   ·exact absurd e n2
   ·rw[Hp.ob_alloc,if_neg n1]at o1;rw[Hp.ob_alloc,if_neg n2]at o2;exact hp e1 e2 lA kH t1 t2 g1 g2 aa W o1 o2
 ·intro b1 b2 e1 e2 lA kH t1 t2 g1 g2 s1 s2 o1 o2 l1 l2 ac;rw[show(h.alloc cs t).live b1 (some g1)=h.live b1 (some g1) from Hp.live_congr fun _ _=>rfl]at l1;rw[show(h.alloc cs t).live b2 (some g2)=h.live b2 (some g2) from Hp.live_congr fun _ _=>rfl]at l2;rw[Hp.ob_alloc]at o1 o2;rcases G b1 e1 s1 with ⟨rfl,rfl⟩ | ⟨n1,aa⟩
  ·rcases G b2 e2 s2 with ⟨rfl,rfl⟩ | ⟨n2,W⟩
   ·rw[if_pos rfl]at o1 o2;cases o1;cases o2;rfl
   ·have:=(hr.dom _ _ W).2;simp at ac;omega
  ·rcases G b2 e2 s2 with ⟨rfl,rfl⟩ | ⟨n2,W⟩
   ·have:=(hr.dom _ _ aa).2;simp at ac;omega
   ·rw[if_neg n1]at o1;rw[if_neg n2]at o2;exact hr.apart b1 b2 e1 e2 lA kH t1 t2 g1 g2 aa W o1 o2 l1 l2 ac
 ·rw[hw.heap];simp
 ·intro k hk;exact hold k (by have:=hr.base_le;omega)
 ·intro k hk _;exact hold k hk
 ·intro b e hs hb;rcases G b e hb with ⟨rfl,rfl⟩ | ⟨_,O⟩
  ·right;simp
  ·rw[hs]at O;simp at O
 ·rw[Hp.next_alloc];omega
 ·intro b hb hs;refine⟨?_,rfl,?_⟩
  ·rw[Hp.ob_alloc,if_neg (by omega)]
  ·unfold Sg.put;rw[if_neg (by omega)];exact hs
structure WSet(w w':World)(rb:Nat)(c':AV)(el:TI)(fr:Nat×Nat):Prop where
 at_:w'.heap[rb]? = some (.cells c' el fr)
 ne:∀k,k≠rb->w'.heap[k]? = w.heap[k]?
 size:w'.heap.size=w.heap.size
 os:w'.os=w.os
 tape:w'.tape=w.tape
 output:w'.output=w.output
theorem WSet.setCells(b:Nat):∀(vs:LV) (o:Nat) (w:World) (c:AV) (el:TI) (fr:Nat×Nat),w.heap[b]? = some (.cells c el fr)->o+vs.length<=c.size->
  ∃c',WSet w (w.setCells b o vs) b c' el fr/\c'.toList=splice c.toList o vs
 | [],o,w,c,el,fr,h,hl=>⟨c,⟨h,fun _ _=>rfl,rfl,rfl,rfl,rfl⟩,by simp[splice]⟩
 | v::vs,o,w,c,el,fr,h,hl=>by
  simp only[Ux]at hl;have U:(w.setCell ⟨b,o,none⟩ v).heap[b]? = some (.cells (c.setIfInBounds o v) el fr):=by
   simp[World.setCell,Array.getElem?_modify,h]
  obtain⟨c',hs,V⟩:=WSet.setCells b vs (o+1) (w.setCell ⟨b,o,none⟩ v) _ el fr U (by simp;omega);refine⟨c',⟨hs.at_,fun k E=>?_,?_,hs.os,hs.tape,hs.output⟩,?_⟩
  ·rw[World.setCells,hs.ne k E];simp only[World.setCell,Array.getElem?_modify];rw[if_neg (fun e=>E e.symm)]
  ·rw[World.setCells,hs.size];simp[World.setCell]
  ·rw[V];apply Vi;intro i;rw[fI (by simp;omega),fI (by simp;omega)];simp only[Ux];by_cases G:i=o
   ·subst G;rw[if_neg (by omega),if_pos (by omega)];simp[show i < c.size by omega]
   ·by_cases O:o<=i/\i < o+(vs.length+1)
    ·rw[if_pos (by omega),if_pos O,show i - o=(i - (o+1))+1 by omega,Vd]
    ·rw[if_neg (by omega),if_neg O];simp[Array.toList_setIfInBounds,Wq (Ne.symm G)]
theorem Hp.ob_only(h:Hp)(b g:Nat):(h.only b g).ob=h.ob:=by unfold Hp.only;split <;> rfl
theorem Hp.next_only(h:Hp)(b g:Nat):(h.only b g).next=h.next:=by unfold Hp.only;split <;> rfl
theorem Hp.gs_only(h:Hp)(b g E:Nat):(h.only b g).gs.get E=if E=g then(h.gs.get g).map fun _=>[b] else h.gs.get E:=by
 unfold Hp.only
 split
 ·rename_i G;split
  ·rename_i e;subst e;rw[G];rfl
  ·rfl
 ·rename_i l G
  rw[Hp.gs_setGs]
  split
  ·rw[G];rfl
  ·rfl
theorem Hp.live_only{h:Hp}{b g b':Nat}{E:ON}(hl:(h.only b g).live b' E=true)(hb:h.live b (some g)=true):h.live b' E=true/\(E=some g->b'=b):=by
 cases E with
 | none=>exact⟨rfl,by simp⟩
 | some x =>
  simp only[Hp.live,Hp.gs_only]at hl ⊢;by_cases G:x=g
  ·subst G;simp only[if_true]at hl;simp only[Hp.live]at hb
   cases O:h.gs.get x with
   | none =>
    simp[O]at hl hb ⊢;exact⟨hl,by omega⟩
   | some l =>
    simp[O]at hl hb ⊢;exact⟨by rw[hl];exact hb,hl⟩
  ·simp only[G,if_false]at hl;exact⟨hl,fun e=>absurd (by simpa using e) G⟩
theorem HR.store{base:Nat}{σ:Sg}{h h':Hp}{w:World}(hr:HR base σ h w){b o:Nat}{vs V:LV}(hs:h.store b o vs=some h'){e:En}(he:σ b=some e)(hv:bK σ vs V):
  HR base σ h' (w.setCells e.rb (e.ro+o) V)/\Ext base σ h w σ h' (w.setCells e.rb (e.ro+o) V)/\
  (∀j,j < V.length->(w.cell? ⟨e.rb,e.ro+o+j,none⟩).isSome=true)/\(∀j,j < V.length->w.frozen? ⟨e.rb,e.ro+o+j,none⟩=false)/\vs.all isCell=true:=by
 unfold Hp.store at hs
 split at hs
 ·rename_i cs t g U
  split at hs
  ·rename_i ac
   simp only[Uw,decide_eq_true_eq]at ac;obtain⟨⟨hl,hlen⟩,al⟩:=ac;simp at hs;subst hs;obtain⟨⟨c,el,fr,h1,h2,h3,h4,h5⟩,h6⟩:=hr.cell b e cs t (some g) he U hl;have h6:base<=e.rb:=h6;have h5:=h5 rfl;have a5:e.rb < w.heap.size:=(hr.dom _ _ he).2;obtain⟨c',G,ao⟩:=WSet.setCells e.rb V (e.ro+o) w c el fr h1 (by rw[<-hv.1];omega);have av:c'.size=c.size:=by
    have:=congrArg List.length ao;rw[gC (by simp;rw[<-hv.1];omega)]at this;simpa using this
   have ap:∀i,c'[i]? = if e.ro+o<=i/\i < e.ro+o+V.length then V[i - (e.ro+o)]? else c[i]?:=by
    intro i;have:c'.toList[i]? = (splice c.toList (e.ro+o) V)[i]?:=by rw[ao]
    rw[fI (by simp;rw[<-hv.1];omega)]at this;simpa using this
   have aq:Oth base σ ((h.only b g).setOb b (.cells (splice cs o vs) t (some g))) (w.setCells e.rb (e.ro+o) V):=by
    refine hr.oth.step (Sg.le_refl σ) ?_ ?_ (fun b e h1 h2=>by rw[h1]at h2;simp at h2)
    ·intro b' e' o' k1 k2 k3;rw[Hp.ob_setOb]at k2
     split at k2
     ·cases k2;simp[Ob.isOth]at k3
     ·rw[Hp.ob_only]at k2;exact⟨k2,k1⟩
    ·intro k o' k1 k2;by_cases hk:k=e.rb
     ·rw[hk,h1]at k1;cases k1;simp[Obj.rowOf]at k2
     ·rw[G.ne k hk];exact k1
   refine⟨⟨?_,?_,?_,?_,?_,?_,?_,?_,?_,aq⟩,⟨Sg.le_refl σ,G.os,G.tape,G.output,by rw[G.size];exact Uf _,?_,?_,fun b e s1 s2=>by rw[s1]at s2;simp at s2,?_,?_⟩,?_,?_,al⟩
   ·rw[G.size];exact hr.base_le
   ·intro b' e' O;rw[Hp.next_setOb,Hp.next_only,G.size];exact hr.dom _ _ O
   ·intro b' O;rw[Hp.next_setOb,Hp.next_only]at O;have hf:=hr.fresh b' O;have ad:b'≠b:=by rintro rfl;rw[hf.1]at U;simp at U
    rw[Hp.ob_setOb,if_neg ad,Hp.ob_only,Hp.gs_setOb,Hp.gs_only];refine⟨hf.1,?_⟩;have:=hr.grp b cs t g U;rw[if_neg (by omega)];exact hf.2
   ·intro b' e' ae t' W O E ar;rw[show((h.only b g).setOb b (.cells (splice cs o vs) t (some g))).live b' W=(h.only b g).live b' W from Hp.live_congr fun _ _=>rfl]at ar;obtain⟨aj,ax⟩:=Hp.live_only ar hl;rw[Hp.ob_setOb]at E;by_cases an:b'=b
    ·subst an;rw[if_pos rfl]at E;rw[he]at O;cases O
     cases E
     refine⟨⟨c',el,fr,G.at_,by rw[av,h2],by rw[gC hlen];exact h3,?_,fun _=>h5⟩,h6⟩;intro i v af;rw[fI hlen]at af;rw[ap];by_cases au:o<=i/\i < o+vs.length
     ·rw[if_pos au]at af;rw[if_pos (by rw[<-hv.1];omega),show e.ro+i - (e.ro+o)=i - o by omega];exact hv.get af
     ·rw[if_neg au]at af;rw[if_neg (by rw[<-hv.1];omega)];exact h4 i v af
    ·rw[if_neg an,Hp.ob_only]at E;have hold:=hr.cell b' e' ae t' W O E aj;have ad:e'.rb≠e.rb:=by
      intro ag
      cases W with
      | none=>have:e'.rb < base:=hold.side;omega
      | some W =>
       have:=hr.apart b' b e' e ae cs t' t W g O he E U aj hl ag;subst this;exact an (ax rfl)
     obtain⟨⟨c0,ay,az,k1,k2⟩,k3⟩:=hold;exact⟨⟨c0,ay,az,by rw[G.ne _ ad];exact k1,k2⟩,k3⟩
   ·intro b' ae t' W E;rw[Hp.ob_setOb]at E;rw[Hp.next_setOb,Hp.next_only]
    split at E
    ·cases E;exact hr.grp b cs t _ U
    ·rw[Hp.ob_only]at E;exact hr.grp b' ae t' W E
   ·intro b' e' ae t' W O E;rw[Hp.ob_setOb]at E
    split at E
    ·rename_i e2;subst e2;cases E;exact hr.gdom _ _ cs t _ O U
    ·rw[Hp.ob_only]at E;exact hr.gdom _ _ _ _ _ O E
   ·intro W l hg b' O;rw[Hp.gs_setOb,Hp.gs_only]at hg;have key:∃aa t0,h.ob b'=some (.cells aa t0 (some W)):=by
     split at hg
     ·rename_i e';subst e'
      simp only[VD]at hg;obtain⟨l0,aj,rfl⟩:=hg;simp at O;subst O;exact⟨cs,t,U⟩
     ·exact hr.stack W l hg b' O
    obtain⟨aa,t0,ah⟩:=key;rw[Hp.ob_setOb,Hp.ob_only]
    split
    ·rename_i e';subst e'
     rw[U]at ah;cases ah;exact⟨_,_,rfl⟩
    ·exact⟨aa,t0,ah⟩
   ·intro W l hg;rw[Hp.gs_setOb,Hp.gs_only]at hg
    split at hg
    ·simp only[VD]at hg;obtain⟨l0,aj,rfl⟩:=hg;simp
    ·rename_i ak
     refine(hr.nest W l hg).imp_of_mem fun {b1 b2} m1 m2 hp=>?_;intro e1 e2 lA kH t1 t2 g1 g2 s1 s2 o1 o2;have n1:b1≠b:=by rintro rfl;obtain⟨_,_,hx⟩:=hr.stack W l hg _ m1;rw[U]at hx;cases hx;exact ak rfl
     have n2:b2≠b:=by rintro rfl;obtain⟨_,_,hx⟩:=hr.stack W l hg _ m2;rw[U]at hx;cases hx;exact ak rfl
     rw[Hp.ob_setOb,if_neg n1,Hp.ob_only]at o1;rw[Hp.ob_setOb,if_neg n2,Hp.ob_only]at o2;exact hp e1 e2 lA kH t1 t2 g1 g2 s1 s2 o1 o2
   ·intro b1 b2 e1 e2 lA kH t1 t2 g1 g2 s1 s2 o1 o2 l1 l2 ag;rw[show((h.only b g).setOb b (.cells (splice cs o vs) t (some g))).live b1 (some g1)=(h.only b g).live b1 (some g1) from Hp.live_congr fun _ _=>rfl]at l1;rw[show((h.only b g).setOb b (.cells (splice cs o vs) t (some g))).live b2 (some g2)=(h.only b g).live b2 (some g2) from Hp.live_congr fun _ _=>rfl]at l2;have q1:=(Hp.live_only l1 hl).1;have q2:=(Hp.live_only l2 hl).1;have p1:∃aa t0,h.ob b1=some (.cells aa t0 (some g1)):=by
     rw[Hp.ob_setOb]at o1
     split at o1
     ·rename_i e';subst e';cases o1;exact⟨cs,t,U⟩
     ·rw[Hp.ob_only]at o1;exact⟨_,_,o1⟩
    have p2:∃aa t0,h.ob b2=some (.cells aa t0 (some g2)):=by
     rw[Hp.ob_setOb]at o2
     split at o2
     ·rename_i e';subst e';cases o2;exact⟨cs,t,U⟩
     ·rw[Hp.ob_only]at o2;exact⟨_,_,o2⟩
    obtain⟨_,_,p1⟩:=p1;obtain⟨_,_,p2⟩:=p2;exact hr.apart b1 b2 e1 e2 _ _ _ _ g1 g2 s1 s2 p1 p2 q1 q2 ag
   ·intro k hk;exact G.ne k (by omega)
   ·intro k _ a0;exact G.ne k (fun e'=>a0 _ _ he e'.symm)
   ·rw[Hp.next_setOb,Hp.next_only];exact Uf _
   ·intro b' O ai;have ad:b'≠b:=by rintro rfl;rw[he]at ai;simp at ai
    refine⟨by rw[Hp.ob_setOb,if_neg ad,Hp.ob_only],?_,ai⟩;rw[Hp.gs_setOb,Hp.gs_only];obtain⟨e',a4⟩:=hr.gdom b e cs t g he U;rw[if_neg ?_];rintro rfl;rw[a4]at ai;simp at ai
   ·intro j hj;rw[<-hv.1]at hj;have:e.ro+o+j < c.size:=by omega
    simp[World.cell?,h1,this]
   ·intro j hj;rw[<-hv.1]at hj;have:=h5 (e.ro+o+j) (by omega);simp only[World.frozen?,h1];simpa using this
  ·simp at hs
 ·simp at hs
structure Extended(h h':Hp)(b o e:Nat)(new cs:LV)(t:TI)(g:Nat)(rest:LN):Prop where
 old:h.ob b=some (.cells cs t (some g))
 live:h.live b (some g)=true
 o_le:o<=e
 e_le:e<=cs.length
 ob:∀x,h'.ob x=if x=h.next then some (.cells ((cs.drop o).take (e - o)++new) t (some g)) else if x=b then some (.cells (cs.take e) t (some g)) else h.ob x
 gs:∀x,h'.gs.get x=if x=g then some (h.next::rest) else h.gs.get x
 next:h'.next=h.next+1
 rest:(e=cs.length/\rest=h.below b g)\/rest=[b]
 cell:new.all isCell=true
theorem Hp.extend_spec{h h':Hp}{b o e:Nat}{new:LV}(E:h.extend b o e new=some h')(V:b≠h.next):∃cs t g rest,Extended h h' b o e new cs t g rest:=by
 unfold Hp.extend at E
 split at E
 ·rename_i cs t g O
  split at E
  ·rename_i G
   simp only[Uw,decide_eq_true_eq]at G;by_cases U:e=cs.length
   ·simp only[U,if_true]at E;simp at E;subst E;refine⟨cs,t,g,h.below b g,O,G.1.1.1,G.1.1.2,G.1.2,?_,?_,rfl,.inl ⟨U,rfl⟩,by simpa using G.2⟩
    ·intro x;simp only[Hp.ob];rw[Tr.get_set _ _ _ _ _ (by omega)]
     split
     ·rename_i e1;rw[U]
     ·split
      ·rename_i e2;subst e2;rw[U,Wi];exact O
      ·rfl
    ·intro x;have:=Hp.gs_setGs h g (h.next::h.below b g) x;exact this
   ·simp only[U,if_false]at E;simp at E;subst E;refine⟨cs,t,g,[b],O,G.1.1.1,G.1.1.2,G.1.2,?_,?_,rfl,.inr rfl,by simpa using G.2⟩
    ·intro x;simp only[Hp.ob];rw[Tr.get_set _ _ _ _ _ (by omega)]
     split
     ·rfl
     ·have:=Hp.ob_setOb (h.setGs g [h.next,b]) b (.cells (cs.take e) t (some g)) x;simp only[Hp.ob]at this;rw[this];rfl
    ·intro x;have:=Hp.gs_setGs h g [h.next,b] x;exact this
  ·simp at E
 ·simp at E
theorem mI(b:Nat):∀(l:LN),b∈l->∃r,l.dropWhile (· != b)=b::r
 | [],h=>by simp at h
 | x::l,h=>by
  by_cases E:x=b
  ·subst E;exact⟨l,by simp⟩
  ·have:b∈l:=by simp at h;rcases h with h | h;exact absurd h.symm E;exact h
   obtain⟨r,hr⟩:=mI b l this;exact⟨r,by simp[List.dropWhile_cons,E,hr]⟩
theorem HR.below_spec{base:Nat}{σ:Sg}{h:Hp}{w:World}(hr:HR base σ h w){b g:Nat}{cs:LV}{t:TI}(V:h.ob b=some (.cells cs t (some g))) (hl:h.live b (some g)=true) :
  ∃r,h.below b g=b::r/\(∀x∈b::r,h.live x (some g)=true/\∃W tx,h.ob x=some (.cells W tx (some g)))/\
   (b::r).Pairwise fun b1 b2=>∀e1 e2 lA kH t1 t2 g1 g2,σ b1=some e1->σ b2=some e2->
    h.ob b1=some (.cells lA t1 g1)->h.ob b2=some (.cells kH t2 g2)->e1.rb=e2.rb->e2.ro+kH.length<=e1.ro+lA.length:=by
 unfold Hp.below
 cases O:h.gs.get g with
 | none =>
  refine⟨[],rfl,?_,by simp⟩;intro x U;simp at U;subst U;exact⟨hl,cs,t,V⟩
 | some l =>
  have hb:b∈l:=by simpa[Hp.live,O]using hl
  obtain⟨r,E⟩:=mI b l hb;refine⟨r,E,?_,?_⟩
  ·intro x U;have G:x∈l:=(List.dropWhile_suffix (· != b)).subset (E ▸U);exact⟨by simpa[Hp.live,O]using G,hr.stack g l O x G⟩
  ·have:=hr.nest g l O;exact(this.sublist (List.dropWhile_suffix (· != b)).sublist) |> fun p=>E ▸p
theorem Hp.live_iff(h:Hp)(b g:Nat):h.live b (some g)=true↔match h.gs.get g with
  | none=>b=g
  | some l=>b∈l:=by
 cases E:h.gs.get g <;> simp[Hp.live,E]
theorem HR.extended{base:Nat}{σ:Sg}{h h':Hp}{w w':World}(hr:HR base σ h w){b o e:Nat}{new cs:LV}{t:TI}{g:Nat}{rest:LN}
  (hx:Extended h h' b o e new cs t g rest) {eb en:En} (hb:σ b=some eb) (bm:w.heap.size<=w'.heap.size) (bn:en.rb < w'.heap.size)
  (a7:Lies base (σ.put h.next en) w' en ((cs.drop o).take (e - o)++new) (some g))
  (bg:Lies base (σ.put h.next en) w' eb (cs.take e) (some g))
  (bh:∀x ex G tx W,σ x=some ex->h.ob x=some (.cells G tx W)->x≠b->(W=some g->x∈rest/\e=cs.length)->h.live x W=true->Lies base σ w ex G W->Lies base (σ.put h.next en) w' ex G W)
  (al:en.rb=eb.rb\/∀x ex,σ x=some ex->ex.rb≠en.rb) (bo:en.rb=eb.rb->en.ro=eb.ro+o)
  (bi:∀(k:Nat) (o:Obj),w.heap[k]? = some o->Obj.rowOf o=false->w'.heap[k]? = some o) :
  HR base (σ.put h.next en) h' w':=by
 have bp:σ h.next=none:=hr.none_next (Uf _);have hle:σ.le (σ.put h.next en):=Sg.put_le bp;have bq:b≠h.next:=by have:=(hr.dom _ _ hb).1;omega
 have O:∀x ex,(σ.put h.next en) x=some ex->(x=h.next/\ex=en)\/(x≠h.next/\σ x=some ex):=by
  intro x ex ai;unfold Sg.put at ai
  split at ai
  ·rename_i U;left;exact⟨U,by simpa using ai.symm⟩
  ·rename_i U;right;exact⟨U,ai⟩
 have bw:g≠h.next:=by have:=hr.grp b cs t g hx.old;omega
 obtain⟨r,ay,av,az⟩:=hr.below_spec hx.old hx.live;have an:∀x∈rest,h.live x (some g)=true/\(∃G tx,h.ob x=some (.cells G tx (some g)))/\(x≠b->e=cs.length):=by
  intro x ae;rcases hx.rest with ⟨hf,ac⟩ | ac
  ·rw[ac,ay]at ae;exact⟨(av x ae).1,(av x ae).2,fun _=>hf⟩
  ·rw[ac]at ae;simp at ae;subst ae;exact⟨hx.live,⟨cs,t,hx.old⟩,fun ad=>absurd rfl ad⟩
 have ak:∀x W,h'.live x W=true->(x=h.next/\W=some g)\/(h.live x W=true/\(W=some g->x∈rest)):=by
  intro x W hl
  cases W with
  | none=>right;exact⟨rfl,by simp⟩
  | some W =>
   rw[Hp.live_iff,hx.gs]at hl;by_cases aa:W=g
   ·subst aa;simp at hl;rcases hl with hl | hl
    ·left;exact⟨hl,rfl⟩
    ·right;exact⟨(an x hl).1,fun _=>hl⟩
   ·rw[if_neg aa]at hl
    right;exact⟨by rw[Hp.live_iff];exact hl,fun e'=>absurd (by simpa using e') aa⟩
 have ag:∀x,x≠h.next->x≠b->h'.ob x=h.ob x:=by
  intro x h1 h2;rw[hx.ob,if_neg h1,if_neg h2]
 have ap:h'.ob b=some (.cells (cs.take e) t (some g)):=by rw[hx.ob,if_neg bq,if_pos rfl]
 have af:h'.ob h.next=some (.cells ((cs.drop o).take (e - o)++new) t (some g)):=by rw[hx.ob,if_pos rfl]
 have ba:((cs.drop o).take (e - o)).length=e - o:=by have:=hx.e_le;simp;omega
 have ar:∀x G tx W,x≠h.next->h'.ob x=some (.cells G tx W)->∃ao,h.ob x=some (.cells ao tx W)/\(x≠b->ao=G)/\(x=b->G=cs.take e/\ao=cs):=by
  intro x G tx W ad E;by_cases V:x=b
  ·subst V;rw[ap]at E;cases E;exact⟨cs,hx.old,fun h=>absurd rfl h,fun _=>⟨rfl,rfl⟩⟩
  ·rw[ag x ad V]at E;exact⟨G,E,fun _=>rfl,fun h=>absurd h V⟩
 have bj:Oth base (σ.put h.next en) h' w':=by
  refine hr.oth.step hle ?_ bi ?_
  ·intro x ex ox h1 h2 h3;rcases O x ex h1 with ⟨rfl,rfl⟩ | ⟨h4,h5⟩
   ·rw[af]at h2;cases h2;simp[Ob.isOth]at h3
   ·by_cases V:x=b
    ·subst V;rw[ap]at h2;cases h2;simp[Ob.isOth]at h3
    ·rw[ag x h4 V]at h2;exact⟨h2,h5⟩
  ·intro x ex h1 h2;rcases O x ex h1 with ⟨rfl,rfl⟩ | ⟨h4,h5⟩
   ·obtain⟨⟨c,el,fr,k1,_⟩,_⟩:=a7
    left;exact⟨_,k1,rfl⟩
   ·rw[h5]at h2;simp at h2
 refine⟨Nat.le_trans hr.base_le bm,?_,?_,?_,?_,?_,?_,?_,?_,bj⟩
 ·intro x ex ai;rw[hx.next];rcases O x ex ai with ⟨rfl,rfl⟩ | ⟨_,h2⟩
  ·exact⟨by omega,bn⟩
  ·have:=hr.dom _ _ h2;omega
 ·intro x ai;rw[hx.next]at ai;have hf:=hr.fresh x (by omega);have V:x≠b:=by have:=(hr.dom _ _ hb).1;omega
  rw[ag x (by omega) V,hx.gs];have:=hr.grp b cs t g hx.old;rw[if_neg (by omega)];exact hf
 ·intro x ex G tx W ai E bb;rcases O x ex ai with ⟨rfl,rfl⟩ | ⟨ad,h2⟩
  ·rw[af]at E;cases E;exact a7
  ·rcases ak x W bb with ⟨e1,_⟩ | ⟨a6,a0⟩
   ·exact absurd e1 ad
   ·by_cases V:x=b
    ·subst V;rw[ap]at E;cases E;rw[hb]at h2;cases h2;exact bg
    ·rw[ag x ad V]at E;exact bh x ex G tx W h2 E V (fun hg=>⟨a0 hg,(an x (a0 hg)).2.2 V⟩) a6 (hr.cell x ex G tx W h2 E a6)
 ·intro x G tx W E;rw[hx.next];by_cases ad:x=h.next
  ·subst ad;rw[af]at E;cases E;have:=hr.grp b cs t g hx.old;omega
  ·obtain⟨ao,h0,_⟩:=ar x G tx _ ad E;have:=hr.grp x ao tx W h0;omega
 ·intro x ex G tx W ai E;rcases O x ex ai with ⟨rfl,rfl⟩ | ⟨ad,h2⟩
  ·rw[af]at E;cases E;obtain⟨e',bf⟩:=hr.gdom b eb cs t g hb hx.old;exact⟨e',hle _ _ bf⟩
  ·obtain⟨ao,h0,_⟩:=ar x G tx _ ad E;obtain⟨e',bf⟩:=hr.gdom x ex ao tx W h2 h0;exact⟨e',hle _ _ bf⟩
 ·intro W l aa x au;rw[hx.gs]at aa;have key:x=h.next/\W=g\/∃G tx,h.ob x=some (.cells G tx (some W)):=by
   split at aa
   ·rename_i e1;subst e1
    simp at aa;subst aa;simp at au;rcases au with au | au
    ·left;exact⟨au,rfl⟩
    ·right;exact(an x au).2.1
   ·right;exact hr.stack W l aa x au
  rcases key with ⟨rfl,rfl⟩ | ⟨G,tx,h0⟩
  ·exact⟨_,_,af⟩
  ·by_cases ad:x=h.next
   ·subst ad;rw[(hr.fresh _ (Uf _)).1]at h0;simp at h0
   ·by_cases V:x=b
    ·subst V;rw[hx.old]at h0;cases h0;exact⟨_,_,ap⟩
    ·exact⟨G,tx,by rw[ag x ad V];exact h0⟩
 ·intro W l aa;rw[hx.gs]at aa
  split at aa
  ·rename_i e1;subst e1
   simp at aa;subst aa;refine List.pairwise_cons.2 ⟨?_,?_⟩
   ·intro x ae e1 e2 lA kH t1 t2 g1 g2 s1 s2 o1 o2 ah;rw[af]at o1;cases o1;have bk:x≠h.next:=by
     rintro rfl;obtain⟨_,_,U⟩:=(an _ ae).2.1;rw[(hr.fresh _ (Uf _)).1]at U;simp at U
    rcases O _ _ s1 with ⟨_,rfl⟩ | ⟨hn,_⟩
    ·rcases O x e2 s2 with ⟨hn,_⟩ | ⟨_,aj⟩
     ·exact absurd hn bk
     ·rcases al with al | al
      ·have bv:=bo al;by_cases V:x=b
       ·subst V;rw[ap]at o2;cases o2;rw[hb]at aj;cases aj;have h1:=hx.o_le;have h2:=hx.e_le;simp;omega
       ·rw[ag x bk V]at o2;have br:=(an x ae).2.2 V;rcases hx.rest with ⟨_,ac⟩ | ac
        ·rw[ac,ay]at ae;have bl:x∈r:=by simp at ae;rcases ae with h | h;exact absurd h V;exact h
         have:=(List.pairwise_cons.1 az).1 x bl eb e2 cs kH t t2 _ _ hb aj hx.old o2 (al ▸ah);have h1:=hx.o_le;simp[ba];omega
        ·rw[ac]at ae;simp at ae;exact absurd ae V
      ·exact absurd ah.symm (al x e2 aj)
    ·exact absurd rfl hn
   ·rcases hx.rest with ⟨hf,ac⟩ | ac
    ·rw[ac,ay];refine az.imp_of_mem fun {b1 b2} m1 m2 hp=>?_;intro e1 e2 lA kH t1 t2 g1 g2 s1 s2 o1 o2;have n1:b1≠h.next:=by rintro rfl;obtain⟨_,_,U⟩:=(av _ m1).2;rw[(hr.fresh _ (Uf _)).1]at U;simp at U
     have n2:b2≠h.next:=by rintro rfl;obtain⟨_,_,U⟩:=(av _ m2).2;rw[(hr.fresh _ (Uf _)).1]at U;simp at U
     rcases O b1 e1 s1 with ⟨U,_⟩ | ⟨_,ax⟩
     ·exact absurd U n1
     ·rcases O b2 e2 s2 with ⟨U,_⟩ | ⟨_,aj⟩
      ·exact absurd U n2
      ·obtain⟨c1,w1,q1,p1⟩:=ar b1 lA t1 g1 n1 o1;obtain⟨c2,w2,q2,p2⟩:=ar b2 kH t2 g2 n2 o2;have bt:c1.length=lA.length:=by
        by_cases a4:b1=b
        ·obtain⟨x1,x2⟩:=p1 a4;rw[x1,x2,hf,Wi]
        ·rw[q1 a4]
       have bu:c2.length=kH.length:=by
        by_cases a4:b2=b
        ·obtain⟨x1,x2⟩:=p2 a4;rw[x1,x2,hf,Wi]
        ·rw[q2 a4]
       intro ah;have:=hp e1 e2 c1 c2 t1 t2 g1 g2 ax aj w1 w2 ah
       omega
    ·rw[ac];simp
  ·rename_i a8
   refine(hr.nest W l aa).imp_of_mem fun {b1 b2} m1 m2 hp=>?_;intro e1 e2 lA kH t1 t2 g1 g2 s1 s2 o1 o2;have n1:b1≠h.next:=by rintro rfl;obtain⟨_,_,U⟩:=hr.stack W l aa _ m1;rw[(hr.fresh _ (Uf _)).1]at U;simp at U
   have n2:b2≠h.next:=by rintro rfl;obtain⟨_,_,U⟩:=hr.stack W l aa _ m2;rw[(hr.fresh _ (Uf _)).1]at U;simp at U
   have k1:b1≠b:=by rintro rfl;obtain⟨_,_,U⟩:=hr.stack W l aa _ m1;rw[hx.old]at U;cases U;exact a8 rfl
   have k2:b2≠b:=by rintro rfl;obtain⟨_,_,U⟩:=hr.stack W l aa _ m2;rw[hx.old]at U;cases U;exact a8 rfl
   rw[ag b1 n1 k1]at o1;rw[ag b2 n2 k2]at o2;rcases O b1 e1 s1 with ⟨U,_⟩ | ⟨_,ax⟩
   ·exact absurd U n1
   ·rcases O b2 e2 s2 with ⟨U,_⟩ | ⟨_,aj⟩
    ·exact absurd U n2
    ·exact hp e1 e2 lA kH t1 t2 g1 g2 ax aj o1 o2
 ·intro b1 b2 e1 e2 lA kH t1 t2 g1 g2 s1 s2 o1 o2 l1 l2 ah;have one:∀x ex G tx W,x≠h.next->σ x=some ex->h'.ob x=some (.cells G tx (some W))->h'.live x (some W)=true->en.rb=ex.rb->W=g:=by
   intro x ex G tx W ad s E bb a9;rcases al with al | al
   ·obtain⟨ao,w0,_⟩:=ar x G tx _ ad E;rcases ak x _ bb with ⟨U,_⟩ | ⟨a6,_⟩
    ·exact absurd U ad
    ·exact hr.apart x b ex eb ao cs tx t W g s hb w0 hx.old a6 hx.live (a9.symm.trans al)
   ·exact absurd a9.symm (al x ex s)
  by_cases a5:b1=h.next
  ·subst a5;rw[af]at o1;cases o1;by_cases aq:b2=h.next
   ·subst aq;rw[af]at o2;cases o2;rfl
   ·rcases O _ _ s1 with ⟨_,rfl⟩ | ⟨U,_⟩
    ·rcases O b2 e2 s2 with ⟨U,_⟩ | ⟨_,aj⟩
     ·exact absurd U aq
     ·exact(one b2 e2 kH t2 g2 aq aj o2 l2 ah).symm
    ·exact absurd rfl U
  ·rcases O b1 e1 s1 with ⟨U,_⟩ | ⟨_,ax⟩
   ·exact absurd U a5
   ·by_cases aq:b2=h.next
    ·subst aq;rw[af]at o2;cases o2;rcases O _ _ s2 with ⟨_,rfl⟩ | ⟨U,_⟩
     ·exact one b1 e1 lA t1 g1 a5 ax o1 l1 ah.symm
     ·exact absurd rfl U
    ·rcases O b2 e2 s2 with ⟨U,_⟩ | ⟨_,aj⟩
     ·exact absurd U aq
     ·obtain⟨c1,w1,_⟩:=ar b1 lA t1 _ a5 o1;obtain⟨c2,w2,_⟩:=ar b2 kH t2 _ aq o2;rcases ak b1 _ l1 with ⟨U,_⟩ | ⟨k1,_⟩
      ·exact absurd U a5
      ·rcases ak b2 _ l2 with ⟨U,_⟩ | ⟨k2,_⟩
       ·exact absurd U aq
       ·exact hr.apart b1 b2 e1 e2 c1 c2 t1 t2 g1 g2 ax aj w1 w2 k1 k2 ah
theorem Extended.untouched{base:Nat}{σ:Sg}{h h':Hp}{w:World}(hr:HR base σ h w){b o e:Nat}{new cs:LV}{t:TI}{g:Nat}{rest:LN}
  (E:Extended h h' b o e new cs t g rest) {V W:En} (hb:σ b=some V):∀x,x < h.next->σ x=none->h'.ob x=h.ob x/\h'.gs.get x=h.gs.get x/\(σ.put h.next W) x=none:=by
 intro x aa hs;have G:x≠b:=by rintro rfl;rw[hb]at hs;simp at hs
 have O:x≠g:=by
  rintro rfl;obtain⟨e',U⟩:=hr.gdom b V cs t x hb E.old;rw[U]at hs;simp at hs
 refine⟨by rw[E.ob,if_neg (by omega),if_neg G],by rw[E.gs,if_neg O],?_⟩;unfold Sg.put;rw[if_neg (by omega)];exact hs
theorem HR.extend_new{base:Nat}{σ:Sg}{h h':Hp}{w w':World}(hr:HR base σ h w){b o e:Nat}{new gG:LV}(U:h.extend b o e new=some h'){eb:En}(hb:σ b=some eb)
  (hv:bK σ new gG) {c:AV} {el:TI} {fr:Nat×Nat} (hw:WNew w w' (.cells c el fr)) (ad:∀j,j < c.size->¬(fr.1<=j/\j < fr.2))
  (aa:∀j,j < e - o->∀v,w.cell? ⟨eb.rb,eb.ro+o+j,none⟩=some v->c[j]? = some v) (ac:∀(j:Nat) v,gG[j]? = some v->c[e - o+j]? = some v) (ak:e - o+new.length<=c.size) :
  ∃en,HR base (σ.put h.next en) h' w'/\Ext base σ h w (σ.put h.next en) h' w'/\en=⟨w.heap.size,0,c.size⟩:=by
 have ae:b≠h.next:=by have:=(hr.dom _ _ hb).1;omega
 obtain⟨cs,t,g,rest,U⟩:=Hp.extend_spec U ae;have af:σ h.next=none:=hr.none_next (Uf _);have hle:σ.le (σ.put h.next ⟨w.heap.size,0,c.size⟩):=Sg.put_le af;have G:∀k,k < w.heap.size->w'.heap[k]? = w.heap[k]?:=by
  intro k hk;rw[hw.heap,Vs,if_neg (by omega)]
 obtain⟨⟨c0,ag,ah,h1,h2,h3,h4,h5⟩,h6⟩:=hr.cell b eb cs t (some g) hb U.old U.live;have ho:=U.o_le;have he:=U.e_le;have hlen:((cs.drop o).take (e - o)).length=e - o:=by simp;omega
 refine⟨_,hr.extended U hb (by rw[hw.heap];simp) (by rw[hw.heap];simp) ?_ ?_ ?_ (.inr ?_) ?_ (fun k o h1 _=>by rw[G k (VT.1 h1).1];exact h1),⟨hle,hw.os,hw.tape,hw.output,by rw[hw.heap];simp,?_,?_,?_,by rw[U.next];omega,U.untouched hr hb⟩,rfl⟩
 ·refine⟨⟨c,el,fr,by rw[hw.heap];simp,rfl,by simp;omega,?_,fun _=>ad⟩,hr.base_le⟩;intro i v E;rw[List.getElem?_append]at E
  split at E
  ·rename_i hi
   rw[hlen]at hi;rw[VZ,if_pos hi,Vp]at E;obtain⟨v',V,W⟩:=h4 _ _ E;refine⟨v',?_,W.mono hle⟩;simp only[Nat.zero_add];refine aa i hi v' ?_;simp only[World.cell?,h1];rw[show eb.ro+o+i=eb.ro+(o+i) by omega];simpa using V
  ·rename_i hi
   rw[hlen]at hi E;obtain⟨v',V,W⟩:=hv.get E;refine⟨v',?_,W.mono hle⟩;have:=ac _ _ V;rw[show e - o+(i - (e - o))=i by omega]at this;simpa using this
 ·refine⟨⟨c0,ag,ah,by rw[G _ (hr.dom _ _ hb).2];exact h1,h2,by simp;omega,?_,h5⟩,h6⟩;intro i v E;rw[VZ]at E
  split at E
  ·obtain⟨v',V,W⟩:=h4 _ _ E;exact⟨v',V,W.mono hle⟩
  ·simp at E
 ·intro x ex al tx gx s _ _ _ _ hl;obtain⟨⟨c1,ai,aj,q1,q2,q3,q4,q5⟩,q6⟩:=hl;refine⟨⟨c1,ai,aj,by rw[G _ (hr.dom _ _ s).2];exact q1,q2,q3,?_,q5⟩,q6⟩;intro i v E;obtain⟨v',V,W⟩:=q4 i v E;exact⟨v',V,W.mono hle⟩
 ·intro x ex s;have:=(hr.dom _ _ s).2;simp;omega
 ·intro hh;have:=(hr.dom _ _ hb).2;simp at hh;omega
 ·intro k hk;exact G k (by have:=hr.base_le;omega)
 ·intro k hk _;exact G k hk
 ·intro x ex s O;unfold Sg.put at O
  split at O
  ·right;simp at O;subst O;simp
  ·rw[s]at O;simp at O
theorem HR.extend_in{base:Nat}{σ:Sg}{h h':Hp}{w:World}(hr:HR base σ h w){b o e:Nat}{new gG:LV}(V:h.extend b o e new=some h'){G:En}(hb:σ b=some G)
  (hv:bK σ new gG) (aq:G.ro+e+gG.length<=G.rs) :
  (∃en,HR base (σ.put h.next en) h' (w.setCells G.rb (G.ro+e) gG)/\Ext base σ h w (σ.put h.next en) h' (w.setCells G.rb (G.ro+e) gG)/\en=⟨G.rb,G.ro+o,G.rs⟩)/\
  (∀j,j < gG.length->(w.cell? ⟨G.rb,G.ro+e+j,none⟩).isSome=true)/\(∀j,j < gG.length->w.frozen? ⟨G.rb,G.ro+e+j,none⟩=false):=by
 have ar:b≠h.next:=by have:=(hr.dom _ _ hb).1;omega
 obtain⟨cs,t,g,rest,V⟩:=Hp.extend_spec V ar;have au:σ h.next=none:=hr.none_next (Uf _);have hle:σ.le (σ.put h.next ⟨G.rb,G.ro+o,G.rs⟩):=Sg.put_le au;obtain⟨⟨c0,af,ag,h1,h2,h3,h4,h5⟩,h6⟩:=hr.cell b G cs t (some g) hb V.old V.live;have h6:base<=G.rb:=h6;have ho:=V.o_le;have he:=V.e_le;have hlen:((cs.drop o).take (e - o)).length=e - o:=by simp;omega
 have a9:=hv.1;obtain⟨c',E,ak⟩:=WSet.setCells G.rb gG (G.ro+e) w c0 af ag h1 (by omega);have ai:c'.size=c0.size:=by
  have:=congrArg List.length ak;rw[gC (by simp;omega)]at this;simpa using this
 have ad:∀i,c'[i]? = if G.ro+e<=i/\i < G.ro+e+gG.length then gG[i - (G.ro+e)]? else c0[i]?:=by
  intro i;have:c'.toList[i]? = (splice c0.toList (G.ro+e) gG)[i]?:=by rw[ak]
  rw[fI (by simp;omega)]at this;simpa using this
 have al:=(hr.dom _ _ hb).2;refine⟨⟨⟨G.rb,G.ro+o,G.rs⟩,hr.extended V hb (by rw[E.size];exact Uf _) (by rw[E.size];exact al) ?_ ?_ ?_ (.inl rfl) (fun _=>rfl) (fun k o W k2=>by
   by_cases hk:k=G.rb
   ·rw[hk,h1]at W;cases W;simp[Obj.rowOf]at k2
   ·rw[E.ne k hk];exact W),⟨hle,E.os,E.tape,E.output,by rw[E.size];exact Uf _,?_,?_,?_,by rw[V.next];omega,V.untouched hr hb⟩,rfl⟩,?_,?_⟩
 ·refine⟨⟨c',af,ag,E.at_,by rw[ai];exact h2,by simp;omega,?_,h5⟩,h6⟩;intro i v O;rw[List.getElem?_append]at O;rw[ad]
  split at O
  ·rename_i hi
   rw[hlen]at hi;rw[VZ,if_pos hi,Vp]at O;obtain⟨v',W,k2⟩:=h4 _ _ O;simp only;rw[if_neg (by omega),show G.ro+o+i=G.ro+(o+i) by omega];exact⟨v',W,k2.mono hle⟩
  ·rename_i hi
   rw[hlen]at hi O;obtain⟨v',W,k2⟩:=hv.get O;have av:i - (e - o) < gG.length:=(Us.1 W).1;simp only;rw[if_pos (by omega),show G.ro+o+i - (G.ro+e)=i - (e - o) by omega];exact⟨v',W,k2.mono hle⟩
 ·refine⟨⟨c',af,ag,E.at_,by rw[ai];exact h2,by simp;omega,?_,h5⟩,h6⟩;intro i v O;rw[VZ]at O
  split at O
  ·obtain⟨v',W,k2⟩:=h4 _ _ O;rw[ad,if_neg (by omega)];exact⟨v',W,k2.mono hle⟩
  ·simp at O
 ·intro x ex an tx gx s ah ao ax ay hl;obtain⟨⟨c1,az,a0,q1,q2,q3,q4,q5⟩,q6⟩:=hl;by_cases U:ex.rb=G.rb
  ·
   cases gx with
   | none=>have q6:ex.rb < base:=q6;omega
   | some gx =>
    have a4:=hr.apart x b ex G an cs tx t gx g s hb ah V.old ay V.live U;subst a4;obtain⟨aa,hf⟩:=ax rfl;obtain⟨r,ap,a7,aj⟩:=hr.below_spec V.old V.live;have a5:x∈r:=by
     rcases V.rest with ⟨_,ae⟩ | ae
     ·rw[ae,ap]at aa;simp at aa;rcases aa with h | h;exact absurd h ao;exact h
     ·rw[ae]at aa;simp at aa;exact absurd aa ao
    have a8:=(List.pairwise_cons.1 aj).1 x a5 G ex cs an t tx _ _ hb s V.old ah U.symm;rw[U,h1]at q1;cases q1;refine⟨⟨c',af,ag,by rw[U];exact E.at_,by rw[ai];exact q2,q3,?_,q5⟩,q6⟩;intro i v O;have av:=(Us.1 O).1;obtain⟨v',W,k2⟩:=q4 i v O;rw[ad,if_neg (by omega)];exact⟨v',W,k2.mono hle⟩
  ·refine⟨⟨c1,az,a0,by rw[E.ne _ U];exact q1,q2,q3,?_,q5⟩,q6⟩;intro i v O;obtain⟨v',W,k2⟩:=q4 i v O;exact⟨v',W,k2.mono hle⟩
 ·intro k hk;exact E.ne k (by omega)
 ·intro k _ a6;exact E.ne k (fun e'=>a6 _ _ hb e'.symm)
 ·intro x ex s ac;unfold Sg.put at ac
  split at ac
  ·left;simp at ac;subst ac;exact⟨b,G,hb,rfl⟩
  ·rw[s]at ac;simp at ac
 ·intro j hj;have:G.ro+e+j < c0.size:=by omega
  simp[World.cell?,h1,this]
 ·intro j hj;have:=h5 rfl (G.ro+e+j) (by omega);simp only[World.frozen?,h1];simpa using this
theorem Hp.ob_newOb(h:Hp)(o:Ob)(b:Nat):(h.newOb o).ob b=if b=h.next then some o else h.ob b:=by
 unfold Hp.newOb Hp.ob;exact Tr.get_set _ _ _ _ _ (by omega)
theorem Hp.gs_newOb(h:Hp)(o:Ob):(h.newOb o).gs=h.gs:=rfl
theorem Hp.next_newOb(h:Hp)(o:Ob):(h.newOb o).next=h.next+1:=rfl
theorem HR.newOth{base:Nat}{σ:Sg}{h:Hp}{w w':World}(hr:HR base σ h w){o:Ob}{r:Obj}(ho:o.isOth=true)(hw:WNew w w' r)
  (af:fY (σ.put h.next ⟨w.heap.size,0,0⟩) o r) :
  HR base (σ.put h.next ⟨w.heap.size,0,0⟩) (h.newOb o) w'/\Ext base σ h w (σ.put h.next ⟨w.heap.size,0,0⟩) (h.newOb o) w'/\
   (σ.put h.next ⟨w.heap.size,0,0⟩) h.next=some ⟨w.heap.size,0,0⟩:=by
 have ai:σ h.next=none:=hr.none_next (Uf _);have hle:σ.le (σ.put h.next ⟨w.heap.size,0,0⟩):=Sg.put_le ai;have hold:∀k,k < w.heap.size->w'.heap[k]? = w.heap[k]?:=by
  intro k hk;rw[hw.heap,Vs,if_neg (by omega)]
 have G:∀b e,(σ.put h.next ⟨w.heap.size,0,0⟩) b=some e->(b=h.next/\e=⟨w.heap.size,0,0⟩)\/(b≠h.next/\σ b=some e):=by
  intro b e hb;unfold Sg.put at hb
  split at hb
  ·rename_i hh;left;exact⟨hh,by simpa using hb.symm⟩
  ·rename_i hh;right;exact⟨hh,hb⟩
 have ag:h.ob h.next=none:=(hr.fresh _ (Uf _)).1;have ao:h.gs.get h.next=none:=(hr.fresh _ (Uf _)).2;have O:∀b cs t g,(h.newOb o).ob b=some (.cells cs t g)->b≠h.next/\h.ob b=some (.cells cs t g):=by
  intro b cs t g hx;rw[Hp.ob_newOb]at hx
  split at hx
  ·cases hx;simp[Ob.isOth]at ho
  ·rename_i aa;exact⟨aa,hx⟩
 refine⟨⟨?_,?_,?_,?_,?_,?_,?_,?_,?_,?_⟩,⟨hle,hw.os,hw.tape,hw.output,?_,?_,?_,?_,?_,?_⟩,by simp[Sg.put]⟩
 ·rw[hw.heap];simp;have:=hr.base_le;omega
 ·intro b e hb;rw[hw.heap,Hp.next_newOb];simp;rcases G b e hb with ⟨rfl,rfl⟩ | ⟨_,V⟩
  ·simp
  ·have:=hr.dom _ _ V;omega
 ·intro b hb;rw[Hp.next_newOb]at hb;rw[Hp.ob_newOb,Hp.gs_newOb,if_neg (by omega)];exact hr.fresh b (by omega)
 ·intro b e U t' g hb E hl;rw[show(h.newOb o).live b g=h.live b g from Hp.live_congr fun _ _=>rfl]at hl;obtain⟨aa,E⟩:=O _ _ _ _ E;rcases G b e hb with ⟨h1,_⟩ | ⟨h1,V⟩
  ·exact absurd h1 aa
  ·obtain⟨⟨c0,aj,ak,h3,h4,h5,h6,h7⟩,h8⟩:=hr.cell b e U t' g V E hl;refine⟨⟨c0,aj,ak,by rw[hold _ (hr.dom _ _ V).2];exact h3,h4,h5,?_,h7⟩,h8⟩;intro i v hv;obtain⟨v',h9,al⟩:=h6 i v hv;exact⟨v',h9,al.mono hle⟩
 ·intro b U t' g E;obtain⟨_,E⟩:=O _ _ _ _ E;rw[Hp.next_newOb];have:=hr.grp b U t' g E;omega
 ·intro b e U t' g hb E;obtain⟨aa,E⟩:=O _ _ _ _ E;rcases G b e hb with ⟨h1,_⟩ | ⟨h1,V⟩
  ·exact absurd h1 aa
  ·obtain⟨e',an⟩:=hr.gdom b e U t' g V E;exact⟨e',hle _ _ an⟩
 ·intro g l hg b hb;rw[Hp.gs_newOb]at hg;obtain⟨U,t',E⟩:=hr.stack g l hg b hb;refine⟨U,t',?_⟩;rw[Hp.ob_newOb,if_neg ?_]
  ·exact E
  ·rintro rfl;rw[ag]at E;simp at E
 ·intro g l hg;rw[Hp.gs_newOb]at hg;refine(hr.nest g l hg).imp_of_mem fun {b1 b2} m1 m2 hp=>?_;intro e1 e2 lA kH t1 t2 g1 g2 s1 s2 o1 o2;obtain⟨n1,o1⟩:=O _ _ _ _ o1;obtain⟨n2,o2⟩:=O _ _ _ _ o2;rcases G b1 e1 s1 with ⟨e,_⟩ | ⟨_,ac⟩
  ·exact absurd e n1
  ·rcases G b2 e2 s2 with ⟨e,_⟩ | ⟨_,ad⟩
   ·exact absurd e n2
   ·exact hp e1 e2 lA kH t1 t2 g1 g2 ac ad o1 o2
 ·intro b1 b2 e1 e2 lA kH t1 t2 g1 g2 s1 s2 o1 o2 l1 l2 W;rw[show(h.newOb o).live b1 (some g1)=h.live b1 (some g1) from Hp.live_congr fun _ _=>rfl]at l1;rw[show(h.newOb o).live b2 (some g2)=h.live b2 (some g2) from Hp.live_congr fun _ _=>rfl]at l2;obtain⟨n1,o1⟩:=O _ _ _ _ o1;obtain⟨n2,o2⟩:=O _ _ _ _ o2;rcases G b1 e1 s1 with ⟨e,_⟩ | ⟨_,ac⟩
  ·exact absurd e n1
  ·rcases G b2 e2 s2 with ⟨e,_⟩ | ⟨_,ad⟩
   ·exact absurd e n2
   ·exact hr.apart b1 b2 e1 e2 lA kH t1 t2 g1 g2 ac ad o1 o2 l1 l2 W
 ·intro b e o' hb E ah;rw[Hp.ob_newOb]at E;rcases G b e hb with ⟨rfl,rfl⟩ | ⟨h1,V⟩
  ·rw[if_pos rfl]at E;cases E;refine⟨hr.base_le,rfl,⟨r,by rw[hw.heap];simp,af⟩,fun b' e' ae W=>?_⟩;rcases G b' e' ae with ⟨h3,_⟩ | ⟨_,h4⟩
   ·exact h3
   ·have:=(hr.dom _ _ h4).2;simp at W;omega
  ·rw[if_neg h1]at E;obtain⟨q1,q2,⟨r',q3,q4⟩,q5⟩:=hr.oth b e o' V E ah;refine⟨q1,q2,⟨r',by rw[hold _ (hr.dom _ _ V).2];exact q3,q4.mono hle⟩,fun b' e' ae W=>?_⟩;rcases G b' e' ae with ⟨_,rfl⟩ | ⟨_,h4⟩
   ·have:=(hr.dom _ _ V).2;simp at W;omega
   ·exact q5 b' e' h4 W
 ·rw[hw.heap];simp
 ·intro k hk;exact hold k (by have:=hr.base_le;omega)
 ·intro k hk _;exact hold k hk
 ·intro b e hs hb;rcases G b e hb with ⟨rfl,rfl⟩ | ⟨_,V⟩
  ·right;simp
  ·rw[hs]at V;simp at V
 ·rw[Hp.next_newOb];omega
 ·intro b hb hs;refine⟨by rw[Hp.ob_newOb,if_neg (by omega)],rfl,?_⟩;unfold Sg.put;rw[if_neg (by omega)];exact hs
theorem HR.setOth{base:Nat}{σ:Sg}{h:Hp}{w:World}(hr:HR base σ h w){b:Nat}{e:En}{o o':Ob}{r':Obj}(he:σ b=some e)(U:h.ob b=some o)(ho:o.isOth=true)(ad:o'.isOth=true)
  (aa:fY σ o' r') :
  HR base σ (h.setOb b o') {w with heap:=w.heap.setIfInBounds e.rb r'}/\Ext base σ h w σ (h.setOb b o') {w with heap:=w.heap.setIfInBounds e.rb r'}:=by
 obtain⟨p1,p2,⟨r,p3,p4⟩,p5⟩:=hr.oth b e o he U ho;have ae:=(hr.dom _ _ he).2;have V:∀k,k≠e.rb->(w.heap.setIfInBounds e.rb r')[k]? = w.heap[k]?:=fun k hk=>by rw[Wg (fun x=>hk x.symm)]
 have af:(w.heap.setIfInBounds e.rb r')[e.rb]? = some r':=by rw[We ae]
 have G:∀x cs t g,(h.setOb b o').ob x=some (.cells cs t g)->x≠b/\h.ob x=some (.cells cs t g):=by
  intro x cs t g O;rw[Hp.ob_setOb]at O
  split at O
  ·cases O;simp[Ob.isOth]at ad
  ·rename_i hn;exact⟨hn,O⟩
 refine⟨⟨?_,?_,?_,?_,?_,?_,?_,?_,?_,?_⟩,⟨Sg.le_refl σ,rfl,rfl,rfl,?_,?_,?_,fun b e s1 s2=>by rw[s1]at s2;simp at s2,?_,?_⟩⟩
 ·simpa using hr.base_le
 ·intro x ex O;simpa[Hp.next_setOb]using hr.dom x ex O
 ·intro x O;rw[Hp.next_setOb]at O;have hf:=hr.fresh x O;rw[Hp.ob_setOb,if_neg (by rintro rfl;rw[hf.1]at U;simp at U),Hp.gs_setOb];exact hf
 ·intro x ex cs t g O E hl;rw[show(h.setOb b o').live x g=h.live x g from Hp.live_congr fun _ _=>rfl]at hl;obtain⟨hn,E⟩:=G _ _ _ _ E;obtain⟨⟨c0,ag,ah,k1,k2⟩,k3⟩:=hr.cell x ex cs t g O E hl;refine⟨⟨c0,ag,ah,?_,k2⟩,k3⟩;show(w.heap.setIfInBounds e.rb r')[ex.rb]? = _;rw[V _ ?_]
  ·exact k1
  ·intro hh;rw[hh,p3]at k1;cases k1;exact p4.not_cells
 ·intro x cs t g E;obtain⟨_,E⟩:=G _ _ _ _ E;exact hr.grp x cs t g E
 ·intro x ex cs t g O E;obtain⟨_,E⟩:=G _ _ _ _ E;exact hr.gdom x ex cs t g O E
 ·intro g l hg x O;rw[Hp.gs_setOb]at hg;obtain⟨cs,t,h1⟩:=hr.stack g l hg x O;refine⟨cs,t,?_⟩;rw[Hp.ob_setOb,if_neg ?_]
  ·exact h1
  ·rintro rfl;rw[U]at h1;cases h1;simp[Ob.isOth]at ho
 ·intro g l hg;rw[Hp.gs_setOb]at hg;refine(hr.nest g l hg).imp_of_mem fun {b1 b2} m1 m2 hp=>?_;intro e1 e2 lA kH t1 t2 g1 g2 s1 s2 o1 o2;exact hp e1 e2 lA kH t1 t2 g1 g2 s1 s2 (G _ _ _ _ o1).2 (G _ _ _ _ o2).2
 ·intro b1 b2 e1 e2 lA kH t1 t2 g1 g2 s1 s2 o1 o2 l1 l2 ai;rw[show(h.setOb b o').live b1 (some g1)=h.live b1 (some g1) from Hp.live_congr fun _ _=>rfl]at l1;rw[show(h.setOb b o').live b2 (some g2)=h.live b2 (some g2) from Hp.live_congr fun _ _=>rfl]at l2;exact hr.apart b1 b2 e1 e2 lA kH t1 t2 g1 g2 s1 s2 (G _ _ _ _ o1).2 (G _ _ _ _ o2).2 l1 l2 ai
 ·intro x ex ox O E ac;rw[Hp.ob_setOb]at E;by_cases W:x=b
  ·subst W;rw[if_pos rfl]at E;cases E;rw[he]at O;cases O;exact⟨p1,p2,⟨r',af,aa⟩,p5⟩
  ·rw[if_neg W]at E;obtain⟨q1,q2,⟨r2,q3,q4⟩,q5⟩:=hr.oth x ex ox O E ac;refine⟨q1,q2,⟨r2,?_,q4⟩,q5⟩;show(w.heap.setIfInBounds e.rb r')[ex.rb]? = _;rw[V _ (fun hh=>W (p5 x ex O hh))];exact q3
 ·simp
 ·intro k hk;exact V k (by omega)
 ·intro k _ aj;exact V k (fun hh=>aj _ _ he hh.symm)
 ·rw[Hp.next_setOb];exact Uf _
 ·intro x O hs;have hn:x≠b:=by rintro rfl;rw[he]at hs;simp at hs
  exact⟨by rw[Hp.ob_setOb,if_neg hn],rfl,hs⟩
theorem ERel.length{σ:Sg}{l l':List MapEntry}(e:ERel σ l l'):l.length=l'.length:=by
 induction e with
 | nil=>rfl
 | cons x y l l' _ _ _ _ E=>simp[E]
theorem ERel.empty{σ:Sg}{l:List MapEntry}{a:Array MapEntry}(e:ERel σ l a.toList):a.isEmpty=l.isEmpty:=by
 obtain⟨m⟩:=a
 cases e <;> rfl
theorem ERel.get{σ:Sg}{l l':List MapEntry}(e:ERel σ l l'):∀{i:Nat} {x:MapEntry},l[i]? = some x->∃y,l'[i]? = some y/\y.born=x.born/\VRel σ x.key y.key/\VRel σ x.val y.val:=by
 induction e with
 | nil=>intro i x h;simp at h
 | cons a b l l' E G O _ U =>
  intro i x h
  cases i with
  | zero=>simp at h;subst h;exact⟨b,rfl,E,G,O⟩
  | succ i=>simp at h;obtain⟨y,V,W⟩:=U h;exact⟨y,by simpa using V,W⟩
theorem ERel.append{σ:Sg}{l l' m E:List MapEntry}(e:ERel σ l l')(f:ERel σ m E):ERel σ (l++m) (l'++E):=by
 induction e with
 | nil=>exact f
 | cons x y l l' G O U _ V=>exact .cons x y _ _ G O U V
theorem ERel.modify{σ:Sg}{l l':List MapEntry}(e:ERel σ l l'){f g:MapEntry->MapEntry}(U:∀x y,y.born=x.born->VRel σ x.key y.key->VRel σ x.val y.val->(g y).born=(f x).born/\VRel σ (f x).key (g y).key/\VRel σ (f x).val (g y).val):
  ∀(i:Nat),ERel σ (l.modify i f) (l'.modify i g):=by
 induction e with
 | nil=>intro i;cases i <;> exact .nil
 | cons x y l l' E G O h V =>
  intro i
  cases i with
  | zero=>obtain⟨W,q2,q3⟩:=U x y E G O;exact .cons _ _ _ _ W q2 q3 h
  | succ i=>exact .cons x y _ _ E G O (V i)
theorem ERel.eraseIdx{σ:Sg}{l l':List MapEntry}(e:ERel σ l l'):∀(i:Nat),ERel σ (l.eraseIdx i) (l'.eraseIdx i):=by
 induction e with
 | nil=>intro i;exact .nil
 | cons x y l l' E G O h U =>
  intro i
  cases i with
  | zero=>exact h
  | succ i=>exact .cons x y _ _ E G O (U i)
theorem ERel.filter{σ:Sg}{l l':List MapEntry}(e:ERel σ l l'){p:Nat->Bool}:ERel σ (l.filter fun x=>p x.born) (l'.filter fun x=>p x.born):=by
 induction e with
 | nil=>exact .nil
 | cons x y l l' E O U h G =>
  rw[Wj,Wj,E]
  split
  ·exact .cons x y _ _ E O U G
  ·exact G
theorem ERel.all{σ:Sg}{l l':List MapEntry}(e:ERel σ l l'){p:Nat->Bool}:(l'.all fun x=>p x.born)=(l.all fun x=>p x.born):=by
 induction e with
 | nil=>rfl
 | cons x y l l' E O U h G=>simp only[List.all_cons,G,E]
theorem ERel.findIdx{σ:Sg}{l l':List MapEntry}(e:ERel σ l l'){p:Nat->Bool}:(l'.findIdx? fun x=>p x.born)=(l.findIdx? fun x=>p x.born):=by
 induction e with
 | nil=>rfl
 | cons x y l l' E O U h G=>rw[List.findIdx?_cons,List.findIdx?_cons,G,E]
theorem ERel.find{σ:Sg}{l l':List MapEntry}(e:ERel σ l l'){p:Nat->Bool}{x:MapEntry}(E:(l.find? fun x=>p x.born)=some x):
  ∃y,(l'.find? fun x=>p x.born)=some y/\y.born=x.born/\VRel σ x.key y.key/\VRel σ x.val y.val:=by
 induction e with
 | nil=>simp at E
 | cons a b l l' G U V h W =>
  rw[Wk]at E;rw[Wk,G]
  split at E
  ·rename_i hp;cases E;exact⟨b,by first | rfl | rw[hp],G,U,V⟩
  ·rename_i hp;obtain⟨y,O,q2⟩:=W E;exact⟨y,by first | exact O | (rw[hp];exact O),q2⟩
section
variable {P:Program} {σ:Sg}
theorem vZ{d:TypeDesc}{a b a' b':Value}{t:Bool}(h:Instr.sameNow d a b=some t)(E:VRel σ a a')(hb:VRel σ b b'):Instr.sameNow d a' b'=some t:=by
 unfold Instr.sameNow at h
 split at h
 ·obtain rfl:=E.int_inv;obtain rfl:=hb.int_inv
  split at h
  ·rename_i G;subst G;simp at h;subst h;simp[Instr.sameNow]
  ·simp at h
 ·obtain rfl:=E.string_inv;obtain rfl:=hb.string_inv;exact h
 ·obtain rfl:=E.bool_inv;obtain rfl:=hb.bool_inv;simp at h;subst h;simp[Instr.sameNow]
 ·simp at h
def SM(σ:Sg):Option (Nat×Value)->Option (Nat×Value)->Prop
 | none,none=>True
 | some (i,v),some (j,u)=>i=j/\VRel σ v u
 | _,_=>False
theorem Eb{d:TypeDesc}{k G:Value}(O:VRel σ k G){es E:List MapEntry}(he:ERel σ es E):∀{i:Nat} {r:Option (Nat×Value)},Instr.findNow d k es i=some r->
  ∃r',Instr.findNow d G E i=some r'/\SM σ r r':=by
 induction he with
 | nil=>intro i r h;simp[Instr.findNow]at h;subst h;exact⟨none,rfl,trivial⟩
 | cons x y l l' h1 U V h W =>
  intro i r hr;unfold Instr.findNow at hr;unfold Instr.findNow
  split at hr
  ·rename_i hs
   simp at hr;subst hr;rw[vZ hs O U];exact⟨_,rfl,rfl,V⟩
  ·rename_i hs
   rw[vZ hs O U];exact W hr
  ·simp at hr
theorem zC(w:World){t:TI}{k G:Value}(O:VRel σ k G){es E:List MapEntry}(he:ERel σ es E):∀{i:Nat} {r:Option (Nat×Value)},findEq P t k es i=some r->
  ∃r',(Instr.findAsking t G E i).run P w = .ok r' w/\SM σ r r':=by
 induction he with
 | nil=>intro i r h;simp[findEq]at h;subst h;exact⟨none,by simp[Instr.findAsking],trivial⟩
 | cons x y l l' h1 U V h W =>
  intro i r hr;unfold findEq at hr;unfold Instr.findAsking
  split at hr
  ·rename_i hs
   simp at hr;subst hr;have he:(Op.equal t G y.key).run P w = .ok true w:=xK w _ _ _ _ _ _ _ hs O U;exact⟨some (i,y.val),by simp[he],rfl,V⟩
  ·rename_i hs
   have he:(Op.equal t G y.key).run P w = .ok false w:=xK w _ _ _ _ _ _ _ hs O U;obtain⟨r',q1,q2⟩:=W hr;exact⟨r',by simp[he,q1],q2⟩
  ·simp at hr
theorem iV(w:World){t:TI}{k V:Value}(U:VRel σ k V){es E:List MapEntry}(he:ERel σ es E){r:Option (Nat×Value)}(h:findK P t k es=some r):
  ∃r',(Instr.findKey t V E).run P w = .ok r' w/\SM σ r r':=by
 unfold findK at h
 split at h
 ·rename_i n e hu
  split at h
  ·obtain⟨r',G,O⟩:=zC w U he h;refine⟨r',?_,O⟩
   cases E with
   | nil=>simp[Instr.findAsking]at G;subst G;simp[Instr.findKey,run_underlying hu,Instr.findNow]
   | cons y l=>simpa[Instr.findKey,run_underlying hu,Instr.findNow,Instr.sameNow]using G
  ·simp at h
 ·rename_i el hu
  obtain⟨r',G,O⟩:=zC w U he h;refine⟨r',?_,O⟩
  cases E with
  | nil=>simp[Instr.findAsking]at G;subst G;simp[Instr.findKey,run_underlying hu,Instr.findNow]
  | cons y l=>simpa[Instr.findKey,run_underlying hu,Instr.findNow,Instr.sameNow]using G
 ·rename_i d hd W hu
  obtain⟨r',G,O⟩:=Eb U he h;exact⟨r',by simp[Instr.findKey,run_underlying hu,G],O⟩
 ·simp at h
theorem CH:∀(n:Nat) {a b a' b':Value},Instr.sameBits n a b=true->VRel σ a a'->VRel σ b b'->Instr.sameBits n a' b'=true:=by
 intro n
 induction n with
 | zero =>
  intro a b a' b' h E hb;unfold Instr.sameBits at h
  split at h <;> first | (simp at h;done) | skip
  ·obtain rfl:=E.bool_inv;obtain rfl:=hb.bool_inv;simpa[Instr.sameBits]using h
  ·obtain rfl:=E.int_inv;obtain rfl:=hb.int_inv;simpa[Instr.sameBits]using h
  ·cases E;cases hb;simpa[Instr.sameBits]using h
  ·cases E;cases hb;simpa[Instr.sameBits]using h
  ·obtain rfl:=E.string_inv;obtain rfl:=hb.string_inv;simpa[Instr.sameBits]using h
  ·rename_i p q
   have e:=eq_of_beq h;subst e
   cases p with
   | none=>obtain rfl:=E.pnil_inv;obtain rfl:=hb.pnil_inv;simp[Instr.sameBits]
   | some p =>
    obtain⟨b0,o0,s0⟩:=p;obtain⟨_,e1,V,rfl⟩:=E.ptr_inv;obtain⟨_,e2,G,rfl⟩:=hb.ptr_inv;rw[V]at G;cases G;simp[Instr.sameBits]
  ·cases E
  ·obtain rfl:=E.nilIface_inv;obtain rfl:=hb.nilIface_inv;rfl
  all_goals exact absurd ‹0=Nat.succ _› (by simp)
 | succ n ih =>
  intro a b a' b' h E hb;unfold Instr.sameBits at h
  split at h <;> first | (simp at h;done) | skip
  ·obtain rfl:=E.bool_inv;obtain rfl:=hb.bool_inv;simpa[Instr.sameBits]using h
  ·obtain rfl:=E.int_inv;obtain rfl:=hb.int_inv;simpa[Instr.sameBits]using h
  ·cases E;cases hb;simpa[Instr.sameBits]using h
  ·cases E;cases hb;simpa[Instr.sameBits]using h
  ·obtain rfl:=E.string_inv;obtain rfl:=hb.string_inv;simpa[Instr.sameBits]using h
  ·rename_i p q
   have e:=eq_of_beq h;subst e
   cases p with
   | none=>obtain rfl:=E.pnil_inv;obtain rfl:=hb.pnil_inv;simp[Instr.sameBits]
   | some p =>
    obtain⟨b0,o0,s0⟩:=p;obtain⟨_,e1,V,rfl⟩:=E.ptr_inv;obtain⟨_,e2,G,rfl⟩:=hb.ptr_inv;rw[V]at G;cases G;simp[Instr.sameBits]
  ·cases E
  ·obtain rfl:=E.nilIface_inv;obtain rfl:=hb.nilIface_inv;rfl
  ·obtain⟨v',rfl,hv⟩:=E.iface_inv;obtain⟨u',rfl,hu⟩:=hb.iface_inv
   rename_i m t v u u2 heq
   have:m=n:=by have:=heq;simp at this;exact this.symm
   subst this;simp only[Uw]at h;simp only[Instr.sameBits,Uw];exact⟨h.1,ih h.2 hv hu⟩
  ·obtain⟨ad,rfl,W⟩:=E.agg_inv;obtain⟨ae,rfl,hy⟩:=hb.agg_inv
   rename_i m xs ys heq
   have:m=n:=by have:=heq;simp at this;exact this.symm
   subst this;simp only[Uw,beq_iff_eq,VK]at h;simp only[Instr.sameBits,Uw,beq_iff_eq,VK];refine⟨by rw[<-W.1,<-hy.1];exact h.1,?_⟩;rintro⟨x',y'⟩ hm;obtain⟨i,hi⟩:=Wl.1 hm;rw[Wu]at hi;simp only[VR]at hi;have aa:i < xs.size:=by rw[W.1];exact(VT.1 hi.1).1
   have ac:i < ys.size:=by rw[hy.1];exact(VT.1 hi.2).1
   have O:=Vq aa;have U:=Vq ac;have:=h.2 (xs[i],ys[i]) (by
    rw[Wl];exact⟨i,by rw[Wu];simp only[VR];exact⟨O,U⟩⟩)
   exact ih this (W.2 i _ _ O hi.1) (hy.2 i _ _ U hi.2)
theorem CR(w:World){a b a' b':Value}(h:Instr.sameBits 10000 a b=true)(E:VRel σ a a')(hb:VRel σ b b'):(Instr.keyThatStays a' b').run P w = .ok b' w:=by
 simp[Instr.keyThatStays,CH 10000 h E hb]
theorem jK(w:World){t:TI}{k V:Value}(h:keyOk P t k=true)(W:VRel σ k V)(em:Bool)(n:Nat):(Instr.checkKey em (n+2) t V).run P w = .ok () w:=by
 unfold keyOk at h
 split at h
 ·rename_i hu;unfold Instr.checkKey;simp[run_underlying hu]
 ·rename_i hu;unfold Instr.checkKey;simp[run_underlying hu]
 ·rename_i hu;unfold Instr.checkKey;simp[run_underlying hu]
 ·rename_i hu;unfold Instr.checkKey;simp[run_underlying hu]
 ·rename_i len e hu
  split at h
  ·rename_i kd cs G hs
   obtain⟨E,rfl,hr⟩:=W.agg_inv;have aa:E.size=len:=by rw[<-hr.1];simpa using h
   have O:agg? P e=some false:=by simp[agg?,G]
   unfold Instr.checkKey;simp only[Sem.run_bind,run_underlying hu,Result.andThen_ok];simp only[Std.Legacy.Range.forIn_eq_forIn_range',Std.Legacy.Range.size,Nat.sub_zero,Nat.add_one_sub_one,Nat.div_one];have each:∀j∈List.range' 0 len,j < E.size:=by
    intro j U;rw[List.mem_range']at U;omega
   generalize List.range' 0 len=is at each
   induction is with
   | nil=>simp
   | cons j is ih =>
    have U:=each j (by simp);have p1:(part e E (j * 1)).run P w = .ok E[j] w:=by simp[part,tD O,U]
    have p2:(Instr.checkKey em (n+1) e E[j]).run P w = .ok () w:=by unfold Instr.checkKey;simp[run_underlying G]
    simp only[List.forIn_cons,Sem.run_bind,cT hs,Result.andThen_ok,p1,p2,Sem.run_pure];exact ih fun y hy=>each y (by simp[hy])
  ·simp at h
 ·simp at h
end
end Go.Cn
