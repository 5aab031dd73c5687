/- Joined: CnV, CnW, CnX, CnY, CnZ, CoA. -/
import Derived.Test.YtmapagggnigfpaaGreatDn08
import Derived.ProofKit
import Derived.OpenShut
import Derived.Below
set_option linter.unusedVariables false
namespace Go.Cn
open Go.RowKit
theorem Ext.toBelow{base:Nat}{σ cE:Sg}{h h':Hp}{w w':World}(he:Ext base σ h w cE h' w'):Below base w w':=⟨he.os,he.tape,he.output,he.size,he.below⟩
section
variable {H:Type} {enc:TI×Value->H} {P:Program}
open Go.ChangeShapes Go.WideShapes Go.ChangeAt Go.RowKit
theorem AT{f:Func}{s:ChangeSpec}{apart fresh handsOn aa:Bool}{W W':World}{args:AV}{v:Value}{ds gs:List (DataW H)}{E pa pv:List MemPlace}
  (hW:DataW.Whole enc P f.params.toList s.vars apart W args.toList ds gs E)
  (V:∀(b:Nat) (sp:Nat->Bool) (hd:Bool),DataW.TrodAll enc P W' b sp hd f.resultTypes.toList (v.resultList f.resultTypes.size) (s.fn H (ds++gs)).results [])
  (G:∀sp:Nat->Bool,(∀p∈E,sp p.block=true)->DataW.TrodAll enc P W' 0 sp true f.params.toList args.toList (s.fn H (ds++gs)).args pa)
  (O:∀sp:Nat->Bool,(∀p∈E,sp p.block=true)->DataW.TrodVars enc P W' sp s.vars (s.fn H (ds++gs)).vars pv)
  (U:E=pa++pv) (hb:Below W.heap.size W W')
  (ad:∀(j:Nat) (t:TI) (r:Value),f.resultTypes[j]? = some t->(v.resultList f.resultTypes.size)[j]? = some r->Value.okWide P W' .any 0 t r) :
  s.post enc P f apart fresh handsOn aa W args v W':=by
 have hold:∀p∈E,(fun b=>decide (b < W.heap.size)) p.block=true:=fun p hp=>by simpa using hW.lt p hp
 have ae:=fun p hp=>hW.lt p hp;refine⟨ds,gs,E,[],pa,pv,hW,V _ _ _,G _ hold,O _ hold,World.keptBut_mono (fun p hp=>⟨hp,?_⟩) (hb.frame (·∈E)),fun _=>?_⟩
 ·rw[U,VF]at hp;exact Or.inr hp
 ·obtain⟨_,_,_,_,_,hz,hn⟩:=hW;refine⟨ad,_,_,([]++pa)++pv,⟨[]++pa,pv,trodAll_append (G _ (fun _ _=>rfl)) (V _ _ _),O _ (fun _ _=>rfl),rfl,?_,?_⟩,?_⟩
  ·intro b off hp;have ac:MemPlace.cell b off∈E:=by rw[U];simpa using hp
   rw[hb.frozen (p:=⟨b,off,none⟩) (ae _ ac)];exact hz b off ac
  ·intro ha;have:=hn ha;rw[U]at this;simpa using this
  ·intro p hp _;rw[U];simpa using hp
end
end Go.Cn
set_option linter.unusedSimpArgs false
namespace Go.Cn
def blk:OA->Nat
 | some a=>a.block
 | none=>0
def off:OA->Nat
 | some a=>a.off
 | none=>0
def aN:OA->Bool
 | some ⟨_,_,none⟩=>true
 | _=>false
def nK(n:Nat):OA->Prop
 | none=>True
 | some a=>a.spot=none\/a.spot=some n
def vO(l:Int)(n:Nat)(a:OA):OA:=a.map fun a=>⟨a.block,a.off+l.toNat * n,a.spot⟩
def vN(l:Int)(n:Nat)(a:OA):OA:=a.map fun a=>⟨a.block,a.off+l.toNat * n,none⟩
def fK(s:BA)(i:Int):Int:=((s[i.toNat]?).getD 0).toNat
def aG(k:IntKind)(a b:Int):Int:=k.wrap (a+b)
def bB(k:IntKind)(a b:Int):Int:=k.wrap (a - b)
def cY(k:IntKind)(a b:Int):Int:=k.wrap (a * b)
def eP(k:IntKind)(a b:Int):Int:=k.wrap (a.tdiv b)
def iO(a b:Int):Int:=a.tmod b
def iD(k:IntKind)(a b:Int):Int:=k.wrap (BitVec.ofInt k.bits a &&& BitVec.ofInt k.bits b).toNat
def tL(k:IntKind)(a b:Int):Int:=k.wrap (BitVec.ofInt k.bits a ||| BitVec.ofInt k.bits b).toNat
def fO(k:IntKind)(a b:Int):Int:=k.wrap (BitVec.ofInt k.bits a ^^^ BitVec.ofInt k.bits b).toNat
def QC(k:IntKind)(a b:Int):Int:=k.wrap (BitVec.ofInt k.bits a &&& ~~~BitVec.ofInt k.bits b).toNat
def jM(k:IntKind)(a b:Int):Int:=k.wrap (a * 2 ^ min b.toNat k.bits)
def gL(k:IntKind)(a b:Int):Int:=a.fdiv (2 ^ min b.toNat k.bits)
def Tq(k:IntKind)(a:Int):Int:=k.wrap (0 - a)
def Em(k:IntKind)(a:Int):Int:=k.wrap (BitVec.ofInt k.bits (if k.signed then -1 else k.max) ^^^ BitVec.ofInt k.bits a).toNat
def cC(k:IntKind)(a:Int):Int:=k.wrap a
def bX(a b:Int):Bool:=a==b
def cP(a b:Int):Bool:=a != b
def bO(a b:Int):Bool:=a < b
def qA(a b:Int):Bool:=a<=b
def dB(a b:Int):Bool:=a > b
def iE(a b:Int):Bool:=a>=b
def aE(n:Nat):Int:=n
def zK(a b:Bool):Bool:=a==b
def aD(a:Bool):Bool:=!a
def dJ(a b:Bool):Bool:=a&&b
def aR{α:Type}(b:Bool)(x y:α):α:=bif b then x else y
def vW(s u:BA):Bool:=s.toList==u.toList
def Oe(s u:BA):Bool:=s==u
def strLt(s u:BA):Bool:=Op.bytesLess s.toList u.toList
def fQ(s u:BA):Bool:=Op.bytesLess s.toList u.toList||s.toList==u.toList
def dH(s u:BA):BA:=s++u
def dQ(s:BA)(l h:Int):BA:=s.extract l.toNat h.toNat
def gW(s u:BA):Prop:=((s.size+u.size:Nat):Int)<=IntKind.i64.max
def yA(s:BA)(l h:Int):Prop:=0<=l/\l<=h/\h<=s.size
def aU(s:BA):Nat:=s.size
def cI(o n:Nat):Nat:=o+n
def aA(o:Nat)(i:Int)(n:Nat):Nat:=o+i.toNat * n
def bS(i:Int)(n:Nat):Prop:=0<=i/\i < (n:Int)
def bR(i:Int):Prop:=0<=i
def SO(n m:Nat):Prop:=n<=m
def Jy(cs:AV)(i:Int):Int :=
 match cs[i.toNat]? with
 | some (.int _ n)=>n
 | _=>0
def IC(k:IntKind)(cs:AV)(i:Int):Prop:=cs[i.toNat]? = some (.int k (Jy cs i))
def bW(i:Int):Prop:=i≠0
def dO(h l:Int):Nat:=h.toNat - l.toNat
def jO(l h m cap:Int):Prop:=0<=l/\l<=h/\h<=m/\m<=cap
def pX(a b:Int):Int:=if a>=b then a else b
def wU(a b:Int):Int:=if a<=b then a else b
def eS:LV->LV->Bool
 | [],[]=>true
 | .int _ a::xs,.int _ b::ys=>bX a b&&eS xs ys
 | _,_=>false
def nO(k:IntKind):LV->Bool
 | []=>true
 | .int k' _::xs=>k==k'&&nO k xs
 | _=>false
section
variable (P:Program)
def isN(a:OA):Bool:=a.isNone
def Sa(a:ON):Bool:=a.isNone
def MA(d len:Nat)(elem:TI)(xs ys:AV):Bool :=
 match P.underlying elem,size? P elem,d with
 | some (.int k),some 1,_+1=>Nat.ble 9 len&&(nO k xs.toList&&(nO k ys.toList&&(Nat.beq xs.toList.length len&&Nat.beq ys.toList.length len)))
 | _,_,_=>false
def DG:(depth:Nat)->TI->Value->Value->Option Bool
 | 0,_,_,_=>none
 | d+1,t,x,y =>
  match P.underlying t,x,y with
  | some .bool,.bool a,.bool b=>some (zK a b)
  | some (.int _),.int k a,.int k' b=>if k=k' then some (bX a b) else none
  | some .string,.string a,.string b=>some (Oe a b)
  | some (.slice _),.slice a _ _,.slice none _ _=>some (isN a)
  | some (.pointer _),.pointer a,.pointer none=>some (isN a)
  | some (.map _ _),.map a,.map none=>some (Sa a)
  | some (.struct fs),.agg xs,.agg ys =>
   if xD P t=false then none else
   fs.toList.foldr (fun f acc =>
    if f.name≠ "_" then
     match part? P f.type xs f.offset,part? P f.type ys f.offset with
     | some a,some b=>match DG d f.type a b,acc with
      | some r,some s=>some (dJ r s)
      | _,_=>none
     | _,_=>none
    else acc) (some true)
  | some (.array len elem),.agg xs,.agg ys =>
   match MA P d len elem xs ys with
   | true=>some (eS xs.toList ys.toList)
   | false =>
   match size? P elem with
   | some n=>(List.range len).foldr (fun i acc =>
     match part? P elem xs (i * n),part? P elem ys (i * n) with
     | some a,some b=>match DG d elem a b,acc with
      | some r,some s=>some (dJ r s)
      | _,_=>none
     | _,_=>none) (some true)
   | none=>none
  | _,_,_=>pN P (d+1) t x y
def jX(x:OV)(dflt:Int):Option Int :=
 match x with
 | none=>some dflt
 | some (.int _ i)=>some i
 | some _=>none
def Kl:Option Prop->Prop
 | none=>True
 | some p=>p
def FW(elem:TI)(a:OA)(len cap:Nat)(lo hi mx:OV):Option (Value×Option Prop) :=
 match size? P elem,jX lo 0,jX hi (aE len),jX mx (aE cap) with
 | some n,some l,some h,some m =>
  match mx,hi with
  | none,_=>some (.slice (vO l n a) (dO h l) (dO m l),some (jO l h m (aE cap)/\nK n a))
  | some _,some _=>some (.slice (vN l n a) (dO h l) (dO m l),some (jO l h m (aE cap)))
  | some _,none=>none
 | _,_,_,_=>none
def RV(elem:TI)(len:Nat)(a:OA)(lo hi:OV):Option (Value×Option Prop) :=
 match size? P elem,jX lo 0,jX hi (aE len) with
 | some n,some l,some h=>some (.slice (vN l n a) (dO h l) (dO (aE len) l),some (jO l h (aE len) (aE len)/\aN a=true))
 | _,_,_=>none
def Qo(s:BA)(lo hi:OV):Option (Value×Option Prop) :=
 match jX lo 0,jX hi (aE (aU s)) with
 | some l,some h=>some (.string (dQ s l h),some (yA s l h))
 | _,_=>none
def Qs(op:BinOp)(k:IntKind)(a b:Int):Option (Value×Option Prop) :=
 match op with
 | .add=>some (.int k (aG k a b),none)
 | .sub=>some (.int k (bB k a b),none)
 | .mul=>some (.int k (cY k a b),none)
 | .quo=>some (.int k (eP k a b),some (bW b))
 | .rem=>some (.int k (iO a b),some (bW b))
 | .and=>some (.int k (iD k a b),none)
 | .or=>some (.int k (tL k a b),none)
 | .xor=>some (.int k (fO k a b),none)
 | .andNot=>some (.int k (QC k a b),none)
 | .eql=>some (.bool (bX a b),none)
 | .neq=>some (.bool (cP a b),none)
 | .lss=>some (.bool (bO a b),none)
 | .leq=>some (.bool (qA a b),none)
 | .gtr=>some (.bool (dB a b),none)
 | .geq=>some (.bool (iE a b),none)
 | _=>none
def Qp(op:BinOp)(s u:BA):Option (Value×Option Prop) :=
 match op with
 | .add=>some (.string (dH s u),some (gW s u))
 | .eql=>some (.bool (vW s u),none)
 | .neq=>some (.bool (aD (vW s u)),none)
 | .lss=>some (.bool (strLt s u),none)
 | .leq=>some (.bool (fQ s u),none)
 | .gtr=>some (.bool (aD (fQ s u)),none)
 | .geq=>some (.bool (aD (strLt s u)),none)
 | _=>none
def RU(op:BinOp)(t:TI)(x y:Operand)(a b:Value):Option (Value×Option Prop) :=
 match a,b with
 | .int k m,.int k' n =>
  match op with
  | .shl=>some (.int k (jM k m n),some (bR n))
  | .shr=>some (.int k (gL k m n),some (bR n))
  | _=>if k=k' then Qs op k m n else none
 | .string s,.string u=>Qp op s u
 | .float _ _,_ | .complex _ _ _,_=>none
 | a,b =>
  match op with
  | .eql=>if fV P t x y a b then(DG P Op.maxDepth t a b).map fun r=>(.bool r,none) else none
  | .neq=>if fV P t x y a b then(DG P Op.maxDepth t a b).map fun r=>(.bool (aD r),none) else none
  | _=>none
def MW(t:TI):Operand->Bool
 | .const .nilIface=>match P.underlying t with
  | some (.interface _)=>true
  | _=>false
 | _=>false
def iR:Value->Bool
 | .nilIface=>true
 | _=>false
def qC:Value->Prop
 | .nilIface=>True
 | .iface _ _=>True
 | _=>False
def Qr(op:BinOp)(a:Value):Option (Value×Option Prop) :=
 match op with
 | .eql=>some (.bool (iR a),some (qC a))
 | .neq=>some (.bool (aD (iR a)),some (qC a))
 | _=>none
def Qq(tm:LV)(op:Op):Option (Value×Option Prop) :=
 match op with
 | .nilCheck x=>match ev tm x with
  | .pointer a=>some (.pointer a,some (a.isSome=true))
  | .iface t v=>some (.iface t v,none)
  | .func (.func f) a b=>some (.func (.func f) a b,none)
  | _=>none
 | .binOp o t x y _=>match MW P t y with
  | true=>Qr o (ev tm x)
  | false=>RU P o t x y (ev tm x) (ev tm y)
 | .unOp o _ x =>
  match o,ev tm x with
  | .neg,.int k n=>some (.int k (Tq k n),none)
  | .xor,.int k n=>some (.int k (Em k n),none)
  | .not,.bool b=>some (.bool (aD b),none)
  | _,_=>none
 | .convert s d x =>
  match P.underlying s,P.underlying d,ev tm x with
  | some _,some (.int k),.int _ n=>some (.int k (cC k n),none)
  | some _,some .string,.string u=>some (.string u,none)
  | _,_,_=>none
 | .slice t x lo hi mx =>
  match P.underlying t,ev tm x,mx with
  | some .string,.string s,none=>Qo s (lo.map (ev tm)) (hi.map (ev tm))
  | some (.slice elem),.slice a len cap,_=>FW P elem a len cap (lo.map (ev tm)) (hi.map (ev tm)) (mx.map (ev tm))
  | some (.array len elem),.pointer a,none=>RV P elem len a (lo.map (ev tm)) (hi.map (ev tm))
  | _,_,_=>none
 | .fieldAddr s x f =>
  match P.underlying s,ev tm x with
  | some (.struct fs),.pointer a =>
   match fs[f]? with
   | some fd=>match size? P fd.type with
    | some n=>if n=0 then none else some (ptr (blk a) (cI (off a) fd.offset),some (aN a=true))
    | none=>none
   | none=>none
  | _,_=>none
 | .indexAddr t x ix =>
  match ev tm ix with
  | .int _ i =>
   match P.underlying t,ev tm x with
   | some (.array len elem),.pointer a=>(size? P elem).map fun n=>(ptr (blk a) (aA (off a) i n),some (aN a=true/\bS i len))
   | some (.slice elem),.slice a len _=>(size? P elem).map fun n=>(ptr (blk a) (aA (off a) i n),some (a.isSome=true/\bS i len))
   | _,_=>none
  | _=>none
 | .index t x ix =>
  match ev tm ix,P.underlying t,ev tm x with
  | .int _ i,some .string,.string s=>some (.int .u8 (fK s i),some (bS i (aU s)))
  | .int _ i,some (.array len elem),.agg cs =>
   match P.underlying elem,agg? P elem,size? P elem with
   | some (.int k),some false,some 1=>some (.int k (Jy cs i),some (bS i len/\IC k cs i))
   | _,_,_=>none
  | _,_,_=>none
 | .call {callee:=.builtin .len,args,argTypes} =>
  match argTypes.toList,args.toList with
  | t::_,x::_ =>
   match P.underlying t,ev tm x with
   | some .string,.string s=>some (.int .i64 (aE (aU s)),none)
   | some (.slice _),.slice _ n _=>some (.int .i64 (aE n),none)
   | _,_=>(Gy P t (ev tm x)).map fun v=>(v,none)
  | _,_=>none
 | .call {callee:=.builtin .max,args,..} =>
  match args.toList with
  | [x,y]=>match ev tm x,ev tm y with
   | .int k a,.int k' b=>if k=k' then some (.int k (pX a b),none) else none
   | _,_=>none
  | _=>none
 | .call {callee:=.builtin .min,args,..} =>
  match args.toList with
  | [x,y]=>match ev tm x,ev tm y with
   | .int k a,.int k' b=>if k=k' then some (.int k (wU a b),none) else none
   | _,_=>none
  | _=>none
 | .sliceToArrayPointer arr x =>
  match P.underlying arr,ev tm x with
  | some (.array n _),.slice a l _=>if n=0 then none else some (ptr (blk a) (off a),some (a.isSome=true/\SO n l))
  | _,_=>none
 | .pick _ _ _=>none
 | op=>(pop P tm op).map fun v=>(v,none)
end
section
variable {P:Program}
theorem jQ{a:OA}(h:aN a=true):a=some ⟨blk a,off a,none⟩:=by
 match a,h with
 | some ⟨b,o,none⟩,_=>rfl
theorem yR{a:OA}(h:a.isSome=true):∃s,a=some ⟨blk a,off a,s⟩:=by
 match a,h with
 | some ⟨b,o,s⟩,_=>exact⟨s,rfl⟩
theorem Ds{k:IntKind}{elem:TI}(hu:P.underlying elem=some (.int k)){d:Nat}{X Y:AV}:∀(xs ys:LV) (o:Nat),nO k xs=true->nO k ys=true->xs.length=ys.length->
  (∀j,xs[j]? = if j < xs.length then X[o+j]? else none)->(∀j,ys[j]? = if j < xs.length then Y[o+j]? else none)->
  (List.range' o xs.length).foldr (fun i acc=>match part? P elem X (i * 1),part? P elem Y (i * 1) with
   | some a,some b=>match pN P (d+1) elem a b with
    | some true=>acc
    | some false=>some false
    | none=>none
   | _,_=>none) (some true)=some (eS xs ys)
 | [],[],o,_,_,_,_,_=>rfl
 | [],_::_,o,_,_,hl,_,_=>by simp at hl
 | x::xs,[],o,_,_,hl,_,_=>by simp at hl
 | x::xs,y::ys,o,E,G,hl,O,U=>by
  have V:agg? P elem=some false:=by unfold agg?;rw[hu]
  cases x with
  | int k1 a =>
   cases y with
   | int k2 b =>
    simp only[nO,Uw,beq_iff_eq]at E G;obtain⟨rfl,E⟩:=E;obtain⟨rfl,G⟩:=G;have W:=O 0;have y0:=U 0;simp at W y0;have ih:=Ds hu (d:=d) (X:=X) (Y:=Y) xs ys (o+1) E G (by simpa using hl) (fun j=>by
     have:=O (j+1);simp only[Vd,Ux,Nat.add_lt_add_iff_right]at this;rw[this,show o+(j+1)=o+1+j by omega]) (fun j=>by
     have:=U (j+1);simp only[Vd,Ux,Nat.add_lt_add_iff_right]at this;rw[this,show o+(j+1)=o+1+j by omega])
    rw[Ux,List.range'_succ,Vv,ih];have px:part? P elem X (o * 1)=some (.int k a):=by unfold part?;rw[V,Ve];exact W.symm
    have py:part? P elem Y (o * 1)=some (.int k b):=by unfold part?;rw[V,Ve];exact y0.symm
    rw[px,py];have hc:pN P (d+1) elem (.int k a) (.int k b)=some (a==b):=by simp[pN,hu]
    simp only[hc,eS,bX]
    cases a==b <;> simp
   | _=>simp[nO]at G
  | _=>simp[nO]at E
theorem Ou{d len:Nat}{elem:TI}{xs ys:AV}{r:Bool}(hr:MA P d len elem xs ys=true)(h:some (eS xs.toList ys.toList)=some r):
  (match size? P elem with
   | some n=>(List.range len).foldr (fun i acc =>
     match part? P elem xs (i * n),part? P elem ys (i * n) with
     | some a,some b=>match pN P d elem a b with
      | some true=>acc
      | some false=>some false
      | none=>none
     | _,_=>none) (some true)
   | none=>none)=some r:=by
 unfold MA at hr
 split at hr
 ·rename_i k G hu hs
  simp only[Uw,Nat.beq_eq]at hr;obtain⟨_,O,U,E,V⟩:=hr;rw[hs];simp only;have:=Ds hu (d:=G) (X:=xs) (Y:=ys) xs.toList ys.toList 0 O U (by rw[E,V]) (fun j=>by
   rw[Nat.zero_add]
   split
   ·simp
   ·rename_i W;rw[VI (by omega)]) (fun j=>by
   rw[Nat.zero_add]
   split
   ·simp
   ·rename_i W;rw[VI (by omega)])
  rw[E,<-List.range_eq_range']at this;rw[<-h,<-this]
 ·simp at hr
theorem lX:∀(d:Nat) {t:TI} {x y:Value} {r:Bool},DG P d t x y=some r->pN P d t x y=some r
 | 0,t,x,y,r,h=>by simp[DG]at h
 | d+1,t,x,y,r,h=>by
  unfold DG at h
  split at h
  ·rename_i hu;simp only[pN,hu];exact h
  ·rename_i hu;simp only[pN,hu];exact h
  ·rename_i hu;simp only[pN,hu];exact h
  ·rename_i a _ _ _ _ hu;cases a <;> (simp only[pN,hu];exact h)
  ·rename_i a hu;cases a <;> (simp only[pN,hu];exact h)
  ·rename_i a hu;cases a <;> (simp only[pN,hu];exact h)
  ·rename_i fs xs ys hu
   unfold pN;simp only[hu]
   split at h
   ·simp at h
   ·rename_i hs
    rw[if_neg (by simpa[xD]using hs)];generalize fs.toList=O at h ⊢
    induction O generalizing r with
    | nil=>simpa using h
    | cons f l G =>
     simp only[Vv]at h ⊢
     split at h
     ·rename_i E
      rw[if_pos E]
      split at h
      ·rename_i a b U hb
       simp only[U,hb]
       split at h
       ·rename_i V s1 W h2
        rw[lX d W];simp only[Um,dJ]at h;subst h
        cases V with
        | true=>simpa using G (r:=s1) h2
        | false=>simp
       ·simp at h
      ·simp at h
     ·rename_i E;rw[if_neg E];exact G (r:=r) h
  ·rename_i len elem xs ys hu
   unfold pN;simp only[hu]
   split at h
   ·rename_i hr
    exact Ou hr h
   split at h
   ·rename_i n E
    simp only[E];generalize List.range len=O at h ⊢
    induction O generalizing r with
    | nil=>simpa using h
    | cons i l G =>
     simp only[Vv]at h ⊢
     split at h
     ·rename_i a b U hb
      simp only[U,hb]
      split at h
      ·rename_i V s1 W h2
       rw[lX d W];simp only[Um,dJ]at h;subst h
       cases V with
       | true=>simpa using G (r:=s1) h2
       | false=>simp
      ·simp at h
     ·simp at h
   ·simp at h
  ·exact h
theorem FY{op:BinOp}{k:IntKind}{a b:Int}{v:Value}{c:Option Prop}(h:Qs op k a b=some (v,c))(E:Kl c):BH op k a b=some v:=by
 cases op <;> simp only[Qs,Um,Un,reduceCtorEq]at h <;> obtain⟨rfl,rfl⟩:=h <;> first | rfl | (simp only[Kl,bW]at E;simp[BH,E,eP,iO])
theorem FV{op:BinOp}{a b:BA}{v:Value}{c:Option Prop}(h:Qp op a b=some (v,c))(E:Kl c):Aj op a b=some v:=by
 cases op <;> simp only[Qp,Um,Un,reduceCtorEq]at h <;> obtain⟨rfl,rfl⟩:=h <;> first | rfl | (simp only[Kl,gW]at E;simp only[Aj,dH];rw[if_neg (by omega)])
theorem Fy{op:BinOp}{t:TI}{x y:Operand}{a b v:Value}{c:Option Prop}(h:RU P op t x y a b=some (v,c))(E:Kl c):wW P op t x y a b=some v:=by
 unfold RU at h
 split at h
 ·rename_i k m V n
  unfold wW;simp only
  split at h
  ·simp only[Um,Un]at h;obtain⟨rfl,rfl⟩:=h;simp[shift,Int.not_lt.2 E,jM]
  ·simp only[Um,Un]at h;obtain⟨rfl,rfl⟩:=h;simp[shift,Int.not_lt.2 E,gL]
  ·rename_i W h2
   split at h
   ·rename_i hk
    have:=FY h E
    cases op <;> simp_all
   ·simp at h
 ·rename_i s u
  unfold wW;simp only;exact FV h E
 ·simp at h
 ·simp at h
 ·rename_i n1 G O U
  have e:wW P op t x y a b=(match op with
    | .eql=>if fV P t x y a b then(pN P Op.maxDepth t a b).map .bool else none
    | .neq=>if fV P t x y a b then(pN P Op.maxDepth t a b).map fun r=>.bool !r else none
    | _=>none):=by
   unfold wW
   split
   ·exact(O _ _ _ _ rfl rfl).elim
   ·exact(U _ _ rfl rfl).elim
   ·exact(n1 _ _ rfl).elim
   ·exact(G _ _ _ rfl).elim
   ·cases op <;> rfl
  rw[e]
  split at h
  ·simp only at h ⊢
   split at h
   ·rename_i hp
    rw[if_pos hp];simp only[VD,Un]at h ⊢;obtain⟨r,hr,rfl,_⟩:=h;exact⟨r,lX _ hr,rfl⟩
   ·simp at h
  ·simp only at h ⊢
   split at h
   ·rename_i hp
    rw[if_pos hp];simp only[VD,Un]at h ⊢;obtain⟨r,hr,rfl,_⟩:=h;exact⟨r,lX _ hr,rfl⟩
   ·simp at h
  ·simp at h
theorem KA{t:TI}{y:Operand}(h:MW P t y=true):y = .const .nilIface/\∃ms,P.underlying t=some (.interface ms):=by
 unfold MW at h
 split at h
 ·split at h
  ·rename_i ms hu;exact⟨rfl,ms,hu⟩
  ·simp at h
 ·simp at h
theorem FX{op:BinOp}{t:TI}{x:Operand}{a v:Value}{c:Option Prop}{ms:_}(hu:P.underlying t=some (.interface ms))(h:Qr op a=some (v,c))(E:Kl c):wW P op t x (.const .nilIface) a .nilIface=some v:=by
 have hm:Op.maxDepth=Op.maxDepth - 1+1:=rfl;unfold Qr at h
 split at h
 ·simp only[Um,Un]at h;obtain⟨rfl,rfl⟩:=h
  cases a <;> first | (simp[Kl,qC]at E;done) | skip
  all_goals
   unfold wW;simp only[fV,Bool.or_true,if_true];rw[hm];unfold pN;simp only[hu]
   rfl
 ·simp only[Um,Un]at h;obtain⟨rfl,rfl⟩:=h
  cases a <;> first | (simp[Kl,qC]at E;done) | skip
  all_goals
   unfold wW;simp only[fV,Bool.or_true,if_true];rw[hm];unfold pN;simp only[hu]
   rfl
 ·simp at h
theorem HY{x:OV}{d i:Int}(h:jX x d=some i):(x=none/\i=d)\/∃k,x=some (.int k i):=by
 unfold jX at h
 split at h
 ·simp at h;exact .inl ⟨rfl,h.symm⟩
 ·simp at h;subst h;exact .inr ⟨_,rfl⟩
 ·simp at h
theorem zT{x:OV}{d E:Nat}{i:Int}(h:jX x (d:Int)=some i)(h0:0<=i)(hm:i<=E):bound x d E=some i.toNat:=by
 rcases HY h with ⟨rfl,rfl⟩ | ⟨k,rfl⟩
 ·simp[bound]
 ·simp[bound,h0,hm]
theorem rI{len cap:Nat}{lo hi mx:OV}{l h m:Int}(el:jX lo 0=some l)(G:jX hi (aE len)=some h)(em:jX mx (aE cap)=some m)(U:jO l h m (aE cap))(E:mx=none\/hi≠none):
  bounds len cap lo hi mx=some (l.toNat,h.toNat,m.toNat):=by
 obtain⟨V,W,h3,O⟩:=U;simp only[aE]at G em O;have a1:=zT em (by omega) O;have a3:bound lo 0 h.toNat=some l.toNat:=zT (d:=0) el V (by omega);unfold bounds;rw[a1];simp only;have a2:bound hi len (if mx.isSome=true then m.toNat else cap)=some h.toNat:=by
  refine zT G (by omega) ?_
  split <;> omega
 split
 ·rename_i y
  rcases E with E | E
  ·simp at E
  ·exact absurd rfl E
 ·rw[a2];simp only;rw[a3]
theorem Bg{t elem:TI}{a:OA}{len cap:Nat}{lo hi mx:OV}{v:Value}{c:Option Prop}(hu:P.underlying t=some (.slice elem))
  (h:FW P elem a len cap lo hi mx=some (v,c)) (G:Kl c):kY P t (.slice a len cap) lo hi mx=some v:=by
 unfold FW at h
 split at h
 ·rename_i n l U m E el O em
  split at h
  ·simp only[Um,Un]at h;obtain⟨rfl,rfl⟩:=h;have hb:=rI el O em G.1 (.inl rfl)
   match a with
   | none=>simp only[kY,hu,hb,E];rfl
   | some ⟨b,o,sp⟩ =>
    have hs:sp=none\/sp=some n:=G.2;simp only[kY,hu,hb,E];simp[vO,hs,dO]
  ·simp only[Um,Un]at h;obtain⟨rfl,rfl⟩:=h;have hb:=rI el O em G (.inr (by simp))
   match a with
   | none=>simp only[kY,hu,hb,E];rfl
   | some ⟨b,o,sp⟩ =>
    simp only[kY,hu,hb,E];simp[vN,dO]
  ·simp at h
 ·simp at h
theorem Fz{t elem:TI}{a:OA}{len:Nat}{lo hi:OV}{v:Value}{c:Option Prop}(hu:P.underlying t=some (.array len elem))
  (h:RV P elem len a lo hi=some (v,c)) (E:Kl c):kY P t (.pointer a) lo hi none=some v:=by
 unfold RV at h
 split at h
 ·rename_i n l U G el O
  simp only[Um,Un]at h;obtain⟨rfl,rfl⟩:=h;have hb:=rI (len:=len) (cap:=len) (mx:=none) el O (m:=aE len) rfl E.1 (.inl rfl);rw[jQ E.2];simp only[kY,hu,hb,G];simp[vN,dO]
 ·simp at h
theorem FU{t:TI}{s:BA}{lo hi:OV}{v:Value}{c:Option Prop}(hu:P.underlying t=some .string)(h:Qo s lo hi=some (v,c))(E:Kl c):kY P t (.string s) lo hi none=some v:=by
 unfold Qo at h
 split at h
 ·rename_i l G el O
  simp only[Um,Un]at h;obtain⟨rfl,rfl⟩:=h;obtain⟨U,V,W⟩:=E;have hb:bounds s.size s.size lo hi none=some (l.toNat,G.toNat,s.size):=by
   have:=rI (len:=s.size) (cap:=s.size) (mx:=none) el O (m:=aE s.size) rfl ⟨U,V,W,WH _⟩ (.inl rfl);simpa[aE]using this
  simp only[kY,hu,hb]
  rfl
 ·simp at h
theorem xT{tm:LV}{op:Op}{v:Value}{c:Option Prop}(h:Qq P tm op=some (v,c))(E:Kl c):pop P tm op=some v:=by
 unfold Qq at h
 split at h
 ·rename_i x
  unfold pop;simp only
  split at h
  ·rename_i a he
   simp only[Um,Un]at h;obtain⟨rfl,rfl⟩:=h
   match a,E with
   | some a,_=>simp[he]
  ·rename_i he;simp only[Um,Un]at h;obtain⟨rfl,rfl⟩:=h;simp[he]
  ·rename_i he;simp only[Um,Un]at h;obtain⟨rfl,rfl⟩:=h;simp[he]
  ·simp at h
 ·unfold pop;simp only
  split at h
  ·rename_i U
   obtain⟨rfl,ms,hu⟩:=KA U;have:ev tm (.const .nilIface) = .nilIface:=rfl;rw[this];exact FX hu h E
  ·exact Fy h E
 ·rename_i o t x
  unfold pop;simp only
  split at h <;> first | (simp at h;done) | skip
  all_goals
   rename_i he
   simp only[Um,Un]at h;obtain⟨rfl,rfl⟩:=h;rw[he];rfl
 ·rename_i s d x
  unfold pop;simp only[Eu]
  split at h <;> first | (simp at h;done) | skip
  all_goals
   rename_i O G he
   simp only[Um,Un]at h;obtain⟨rfl,rfl⟩:=h;rw[O,G,he];try rfl
 ·rename_i t x lo hi mx
  unfold pop;simp only
  split at h
  ·rename_i s hu he
   rw[he];exact FU hu h E
  ·rename_i mx elem a len cap hu he
   rw[he];exact Bg hu h E
  ·rename_i len elem a hu he
   rw[he];exact Fz hu h E
  ·simp at h
 ·rename_i s x f
  unfold pop;simp only[pC]
  split at h
  ·rename_i fs a hu he
   split at h
   ·rename_i fd hf
    split at h
    ·rename_i n U
     split at h
     ·simp at h
     ·rename_i h0
      simp only[Um,Un]at h;obtain⟨rfl,rfl⟩:=h;rw[he,jQ E];simp[hu,hf,U,h0,blk,off,cI]
    ·simp at h
   ·simp at h
  ·simp at h
 ·rename_i t x ix
  unfold pop;simp only[pB]
  split at h
  ·rename_i k i hi
   rw[hi]
   split at h
   ·rename_i len elem a hu he
    simp only[VD,Un]at h;obtain⟨n,U,rfl,rfl⟩:=h;obtain⟨O,G,V⟩:=E;rw[he,jQ O];simp[hu,U,G,V,blk,off,aA]
   ·rename_i elem a len cap hu he
    simp only[VD,Un]at h;obtain⟨n,U,rfl,rfl⟩:=h;obtain⟨O,G,V⟩:=E;obtain⟨s,hs⟩:=yR O;rw[he,hs];simp[hu,U,G,V,blk,off,aA]
   ·simp at h
  ·simp at h
 ·rename_i t x ix
  unfold pop;simp only[Cj]
  split at h
  ·rename_i k i s hi hu he
   simp only[Um,Un]at h;obtain⟨rfl,rfl⟩:=h;obtain⟨O,G⟩:=E;simp only[aU]at G;have aa:i.toNat < s.size:=by omega
   simp[hi,hu,he,O,fK,aa]
  ·rename_i k i len elem cs hi hu he
   split at h
   ·rename_i k2 e1 e2 W
    simp only[Um,Un]at h;obtain⟨rfl,rfl⟩:=h;obtain⟨⟨O,G⟩,V⟩:=E;simp only[IC]at V;simp[hi,hu,he,O,G,W,part?,e2,V]
   ·simp at h
  ·simp at h
 ·rename_i args argTypes
  unfold pop;simp only
  split at h
  ·rename_i t ts x xs e1 e2
   rw[e1,e2];simp only
   split at h
   ·rename_i s hu he
    simp only[Um,Un]at h;obtain⟨rfl,rfl⟩:=h;rw[he];simp[Gy,hu,aE,aU]
   ·rename_i el a n cp hu he
    simp only[Um,Un]at h;obtain⟨rfl,rfl⟩:=h;rw[he];simp[Gy,hu,aE]
   ·simp only[VD,Un]at h;obtain⟨w,hw,rfl,_⟩:=h;exact hw
  ·simp at h
 ·rename_i args argTypes
  unfold pop;simp only
  split at h
  ·rename_i x y e1
   rw[e1];simp only
   split at h
   ·rename_i k a k' b e2 W
    split at h
    ·rename_i hk
     simp only[Um,Un]at h;obtain⟨rfl,rfl⟩:=h;rw[e2,W];simp[NU,hk,pX]
    ·simp at h
   ·simp at h
  ·simp at h
 ·rename_i args argTypes
  unfold pop;simp only
  split at h
  ·rename_i x y e1
   rw[e1];simp only
   split at h
   ·rename_i k a k' b e2 W
    split at h
    ·rename_i hk
     simp only[Um,Un]at h;obtain⟨rfl,rfl⟩:=h;rw[e2,W];simp[NS,hk,wU]
    ·simp at h
   ·simp at h
  ·simp at h
 ·rename_i arr x
  unfold pop;simp only
  split at h
  ·rename_i n el a l c hu he
   split at h
   ·simp at h
   ·rename_i h0
    simp only[Um,Un]at h;obtain⟨rfl,rfl⟩:=h;obtain⟨O,G⟩:=E;obtain⟨s,hs⟩:=yR O;simp only[SO]at G;rw[he,hs];simp[hu,G,blk,off]
    omega
  ·simp at h
 ·simp at h
 ·simp only[VD,Un]at h;obtain⟨w,hw,rfl,_⟩:=h;exact hw
end
abbrev Ch:=List (Nat×Bool)
abbrev SS:=List (Ch×Value)
def SS.at(S:SS)(t:Nat):Ch×Value:=S.getD t ([],undef)
def SS.vals(S:SS):LV:=S.map (·.2)
def SS.put(S:SS)(d:Option Tmp)(x:Ch×Value):SS :=
 match d with
 | some d=>S.set d x
 | none=>S
def BS(L:List Oper)(j:Nat):Option Tmp:=(L[j]?).bind (·.dst)
def zU:Value->Bool
 | .bool b=>b
 | _=>false
def isBool:Value->Bool
 | .bool _=>true
 | _=>false
def Qh(L:List Oper)(S:SS)(j:Nat):Bool :=
 match BS L j with
 | some d=>zU (S.at d).2
 | none=>false
def Tv(b:Bool):Bool->Bool
 | true=>b
 | false=>aD b
def lN(L:List Oper)(S:SS):Ch->Bool
 | []=>true
 | (j,w)::r=>match r with
  | []=>Tv (Qh L S j) w
  | _=>dJ (Tv (Qh L S j) w) (lN L S r)
def under(L:List Oper)(S:SS)(ci:Ch)(c:Prop):Prop :=
 match ci with
 | []=>c
 | ci=>lN L S ci=true->c
def fin(L:List Oper)(S:SS)(x:Ch×Value):Value :=
 match x.1 with
 | []=>x.2
 | ch=>aR (lN L S ch) x.2 undef
def real(L:List Oper)(S:SS):LV:=S.map (fin L S)
def kV(S:SS)(ci:Ch):Operand->Bool
 | .tmp t=>(S.at t).1.isSuffixOf ci
 | _=>true
def Hv(L:List Oper)(S:SS)(ci:Ch)(c:Operand)(want:Bool)(x:Operand):Bool :=
 kV S ci x||match c,x with
  | .tmp dc,.tmp t=>match (S.at t).1 with
   | (j,w)::r=>w==want&&decide (BS L j=some dc)&&r.isSuffixOf ci
   | []=>false
  | _,_=>false
def CO(b:Bool)(x y:Value):OV :=
 match x,y with
 | .bool p,.bool q=>some (.bool (aR b p q))
 | .int k m,.int k' n=>if k=k' then some (.int k (aR b m n)) else none
 | .string s,.string u=>some (.string (aR b s u))
 | .pointer p,.pointer q=>some (.pointer (aR b p q))
 | .slice p l c,.slice q m d=>some (.slice (aR b p q) (aR b l m) (aR b c d))
 | _,_=>none
def uA(L:List Oper)(S:SS)(done:LN)(o:Oper):Option Ch :=
 match o.guard with
 | none=>some []
 | some (j,w) =>
  if done.contains j then
   match BS L j with
   | some d=>if decide (d < S.length)&&isBool (S.at d).2 then some ((j,w)::(S.at d).1) else none
   | none=>none
  else none
def sM(L:List Oper)(done:LN)(o:Oper):Bool :=
 match o.dst with
 | none=>true
 | some d=>done.all fun j=>decide (BS L j≠some d)
section
variable (P:Program)
def cellTypes:(fuel:Nat)->TI->Option (List (TI×Nat))
 | 0,_=>none
 | n+1,t =>
  match P.underlying t with
  | some (.struct fs)=>(fs.toList.mapM fun f=>cellTypes n f.type).map List.flatten
  | some (.array len e) =>
   match P.underlying e,Nat.ble 9 len with
   | some (.int _),true=>some [(e,len)]
   | _,_=>(cellTypes n e).map fun l=>(List.replicate len l).flatten
  | some _=>some [(t,0)]
  | none=>none
def aK(k:IntKind)(n:Nat)(D:Nat->Int):LV:=(List.range n).map fun i=>.int k (D i)
def Hb:Nat:=0
variable (dy:Nat->Option TI)
def Ed(t:TI)(f:Value->Prop):Prop :=
 match dy t with
 | some T=>∃a:OA,f (.iface T (.pointer a))
 | none=>∃v:Value,f v
def Ec(t:TI)(f:Value->Prop):Prop :=
 match dy t with
 | some g=>match Nat.beq g Hb with
  | true=>∃l:Nat,f (.func (.yield l) #[] #[])
  | false=>∃xs:LV,f (.func (.func g) #[] xs.toArray)
 | none=>∃v:Value,f v
def vT(t:TI)(f:Value->Prop):Prop :=
 match dy t with
 | some T=>∀a:OA,f (.iface T (.pointer a))
 | none=>∀v:Value,f v
def vS(t:TI)(f:Value->Prop):Prop :=
 match dy t with
 | some g=>match Nat.beq g Hb with
  | true=>∀l:Nat,f (.func (.yield l) #[] #[])
  | false=>∀xs:LV,f (.func (.func g) #[] xs.toArray)
 | none=>∀v:Value,f v
def vI(t:TI)(f:Value->Prop):Prop :=
 match P.underlying t with
 | some .bool=>∃b:Bool,f (.bool b)
 | some (.int k)=>∃n:Int,f (.int k n)
 | some .string=>∃s:BA,f (.string s)
 | some (.slice _)=>∃(a:OA) (l c:Nat),f (.slice a l c)
 | some (.pointer _)=>∃a:OA,f (.pointer a)
 | some (.map _ _)=>∃a:ON,f (.map a)
 | some (.interface _)=>Ed dy t f
 | some (.func _ _ _)=>Ec dy t f
 | _=>∃v:Value,f v
def oW:List (TI×Nat)->(LV->Prop)->Prop
 | [],f=>f []
 | (t,0)::ts,f=>vI P dy t fun v=>oW ts fun vs=>f (v::vs)
 | (t,n+1)::ts,f=>match P.underlying t with
  | some (.int k)=>∃D:Nat->Int,oW ts fun vs=>f (aK k (n+1) D++vs)
  | _=>False
def mZ(t:TI)(f:Value->LV->Prop):Prop :=
 match agg? P t with
 | some true=>match cellTypes P 20 t with
  | some ts=>oW P dy ts fun vs=>f (.agg vs.toArray) vs
  | none=>False
 | some false=>vI P dy t fun v=>f v [v]
 | none=>False
def nA(ts:List TI)(f:Value->Prop):Prop :=
 let rec go:List TI->(LV->Prop)->Prop
  | [],g=>g []
  | t::ts,g=>mZ P dy t fun v _=>go ts fun vs=>g (v::vs)
 match ts with
 | [t]=>mZ P dy t fun v _=>f v
 | ts=>go ts fun vs=>f (.tuple vs.toArray)
def lK(t:TI)(f:Value->Prop):Prop :=
 match P.underlying t with
 | some .bool=>∀b:Bool,f (.bool b)
 | some (.int k)=>∀n:Int,f (.int k n)
 | some .string=>∀s:BA,f (.string s)
 | some (.slice _)=>∀(a:OA) (l c:Nat),f (.slice a l c)
 | some (.pointer _)=>∀a:OA,f (.pointer a)
 | some (.map _ _)=>∀a:ON,f (.map a)
 | some (.interface _)=>vT dy t f
 | some (.func _ _ _)=>vS dy t f
 | _=>∀v,f v
def uI:List TI->(LV->Prop)->Prop
 | [],f=>f []
 | t::ts,f=>lK P dy t fun v=>uI ts fun vs=>f (v::vs)
def pI:List (TI×Nat)->(LV->Prop)->Prop
 | [],f=>f []
 | (t,0)::ts,f=>lK P dy t fun v=>pI ts fun vs=>f (v::vs)
 | (t,n+1)::ts,f=>match P.underlying t with
  | some (.int k)=>∀D:Nat->Int,pI ts fun vs=>f (aK k (n+1) D++vs)
  | _=>True
def vR(t:TI)(f:Value->Prop):Prop :=
 match agg? P t with
 | some true=>match cellTypes P 20 t with
  | some ts=>pI P dy ts fun vs=>f (.agg vs.toArray)
  | none=>True
 | some false=>lK P dy t f
 | none=>True
def pJ(ts:List TI)(f:Value->Prop):Prop :=
 let rec go:List TI->(LV->Prop)->Prop
  | [],g=>g []
  | t::ts,g=>vR P dy t fun v=>go ts fun vs=>g (v::vs)
 match ts with
 | [t]=>vR P dy t f
 | ts=>go ts fun vs=>f (.tuple vs.toArray)
def Dw(f:FuncId):List TI :=
 match P.funcs[f]? with
 | some fn=>fn.resultTypes.toList
 | none=>[]
abbrev Rd:=List (Nat×(Hp->Prop))
def wT(am:Nat):Rd->Hp->Prop->Prop
 | [],_,X=>X
 | (i,p)::rest,h,X=>match am.testBit i with
  | true=>wT am rest h X
  | false=>p h/\wT am rest h X
def fU(a:OA)(l:Nat)(h:Hp)(s:BA):Prop :=
 (a=none/\s = .empty)\/(a.isSome=true/\∃cs,h.cellsAt (blk a) (off a) l=some cs/\bytesOf cs=some s.data.toList)
def Kr(tm:LV)(op:Op)(h:Hp)(u:Prop->Prop)(k:Value->(Hp->Prop)->Prop):Prop :=
 match op with
 | .load t x =>
  match ev tm x,size? P t with
  | .pointer a,some n=>mZ P dy t fun v cs=>if cs.length=n then u (aN a=true/\h.cellsAt (blk a) (off a) n=some cs)/\k v (fun h'=>u (aN a=true/\h'.cellsAt (blk a) (off a) n=some cs)) else False
  | _,_=>False
 | .convert src dst x =>
  match P.underlying src,P.underlying dst,ev tm x with
  | some (.slice e),some .string,.slice a l _=>match P.underlying e with
   | some (.int .u8)=>∃s:BA,u (fU a l h s)/\k (.string s) (fun h'=>u (fU a l h' s))
   | _=>False
  | _,_,_=>False
 | .lookup t x ix ok =>
  match P.underlying t with
  | some (.map _ et)=>mZ P dy et fun v _=>match ok with
   | true=>∃b:Bool,u (dY P t (ev tm x) (ev tm ix) true h=some (.tuple #[v,.bool b]))/\k (.tuple #[v,.bool b]) (fun h'=>u (dY P t (ev tm x) (ev tm ix) true h'=some (.tuple #[v,.bool b])))
   | false=>u (dY P t (ev tm x) (ev tm ix) false h=some v)/\k v (fun h'=>u (dY P t (ev tm x) (ev tm ix) false h'=some v))
  | _=>False
 | .entry (.tmp s) =>
  match (dy (6000000+s)).bind P.underlying with
  | some (.map kt et)=>mZ P dy kt fun key _=>mZ P dy et fun val _=>u (jV (ev tm (.tmp s)) h=some (.tuple #[key,val]))/\k (.tuple #[key,val]) (fun h'=>u (jV (ev tm (.tmp s)) h'=some (.tuple #[key,val])))
  | _=>False
 | .call {callee:=.builtin .len,args,argTypes} =>
  match oA P argTypes,args.toList with
  | true,x::_=>∃es:List MapEntry,u (mapOf h (ev tm x)=some es)/\k (.int .i64 es.length) (fun h'=>u (∃fs:List MapEntry,mapOf h' (ev tm x)=some fs/\fs.length=es.length))
  | _,_=>False
 | op=>∃s:BA,u (rop P tm op h=some (.string s))/\k (.string s) (fun h'=>u (rop P tm op h'=some (.string s)))
def oJ(s:BA):LV:=s.data.toList.map fun b=>.int .u8 b.toNat
def OG(tm:LV)(op:Op)(h:Hp)(k:KT):Prop :=
 match op with
 | .store t a x =>
  match ev tm a,size? P t with
  | .pointer a,some n=>if(ev tm x).cells.size=n then aN a=true/\∃h',h.store (blk a) (off a) (ev tm x).cells.toList=some h'/\k undef h' else False
  | _,_=>False
 | .mapUpdate t m x y | .insert t m x y=>∃h':Hp,iS P t (ev tm m) (ev tm x) (ev tm y) h=some h'/\k undef h'
 | .mapEntry t m x =>
  match P.underlying t with
  | some (.map _ et)=>mZ P dy et fun v _=>∃(n:Int) (h':Hp),jU P t (ev tm m) (ev tm x) h=some (.tuple #[v,.int .i64 n],h')/\k (.tuple #[v,.int .i64 n]) h'
  | _=>False
 | .entryStore _ m s x=>∃h':Hp,gV (ev tm m) (ev tm s) (ev tm x) h=some h'/\k undef h'
 | .range t x=>∃h':Hp,qM P t (ev tm x) h=some (ptr h.next 0,h')/\k (ptr h.next 0) h'
 | .call {callee:=.builtin .delete,args,argTypes} =>
  match argTypes.toList,args.toList with
  | t::_,[m,x]=>∃h':Hp,xL P t (ev tm m) (ev tm x) h=some (.tuple #[],h')/\k (.tuple #[]) h'
  | _,_=>False
 | .makeSlice t l c=>∃(a:OA) (m n:Nat) (h':Hp),oZ P t (ev tm l) (ev tm c) h=some (.slice a m n,h')/\k (.slice a m n) h'
 | .call {callee:=.builtin .append,args,argTypes} =>
  match argTypes.toList,args.toList with
  | [t,xt],[s,x]=>∃(a:OA) (m n:Nat) (h':Hp),aQ P t xt (ev tm s) (ev tm x) h=some (.slice a m n,h')/\k (.slice a m n) h'
  | _,_=>False
 | .call {callee:=.builtin .copy,args,argTypes} =>
  match argTypes.toList,args.toList with
  | t::_,[d,x]=>∃(n:Int) (h':Hp),qO P t (ev tm d) (ev tm x) h=some (.int .i64 n,h')/\k (.int .i64 n) h'
  | _,_=>False
 | .call {callee:=.builtin .clear,args,argTypes} =>
  match argTypes.toList,args.toList with
  | t::_,[x]=>∃h':Hp,Cm P t (ev tm x) h=some (.tuple #[],h')/\k (.tuple #[]) h'
  | _,_=>False
 | .convert src dst x =>
  match P.underlying src,P.underlying dst,ev tm x with
  | some .string,some (.slice e),.string s=>match P.underlying e with
   | some (.int .u8)=>∀h':Hp,h'=h.alloc (oJ s) e->k (.slice (some ⟨h.next,0,some 1⟩) (aU s) (aU s)) h'
   | _=>False
  | _,_,_=>False
 | op=>opt False (AX P tm op h) fun r=>∀h':Hp,h'=r.2->k r.1 h'
def Th(tm:LV)(op:Op)(h:Hp)(k:KT):Prop :=
 match op with
 | .box e x=>if fR (ev tm x)=true then False else ∀h':Hp,h'=h.alloc (ev tm x).cells.toList e->k (ptr h.next 0) h'
 | .buildSlice t len parts =>
  match P.underlying t with
  | some (.slice e) =>
   match size? P e,zero? P e with
   | some n,some z =>
    if len * n > 2 ^ 24||z.cells.size≠n||n=0 || !plainV 100 z then False else
    opt False (tY (fun j=>some (j * n,n)) (zeroCells z.cells.toList len) (parts.toList.map fun(j,x)=>(j,ev tm x))) fun cs=>∀h':Hp,h'=h.alloc cs e->k (.slice (some ⟨h.next,0,none⟩) len len) h'
   | _,_=>False
  | _=>False
 | .makeMap _ none=>∀h':Hp,h'=h.newOb (.map [] 0)->k (.map (some h.next)) h'
 | _=>False
def Mq(f:FuncId):Bool:=decide (f < P.funcs.size)
def yld(l:Nat):FuncId:=P.funcs.size+l
def Co(tm:LV)(op:Op):Option (FuncId×LV×List TI) :=
 match op with
 | .call {callee:=.value f,args,..} =>
  match ev tm f with
  | .func (.func g) first captured=>match Mq P g with
   | true=>some (g,first.toList++args.toList.map (ev tm)++captured.toList,Dw P g)
   | false=>none
  | .func (.yield l) first captured=>match first.toList,captured.toList with
   | [],[]=>some (yld P l,args.toList.map (ev tm),[(dy 1000000).getD 0])
   | _,_=>none
  | _=>none
 | .call {callee:=.invoke r name,args,..} =>
  match ev tm r with
  | .iface t v=>match methodOf P t name with
   | some g=>match Mq P g,fR v with
    | true,false=>some (g,v::args.toList.map (ev tm),Dw P g)
    | _,_=>none
   | none=>none
  | _=>none
 | _=>none
def Sj:Op->Option TI
 | .buildSlice t _ _=>some t
 | .makeSlice t _ _=>some t
 | .call {callee:=.builtin .append,args:=_,argTypes}=>argTypes.toList.head?
 | .convert _ dst _=>some dst
 | _=>none
variable (C:FuncId->LV->Hp->KT->Prop) (pf:FuncId->Bool)
def mQ(L:List Oper)(fs:List Inf)(pre:List OV):LN->(done:LN)->(rd:Rd)->SS->Hp->(LV->Hp->Prop)->Prop
 | [],_,_,S,h,K=>K (real L S) h
 | i::rest,done,rd,S,h,K =>
  match L[i]?,fs[i]? with
  | some o,some f =>
   match uA L S done o,sM L done o with
   | some ci,true =>
    match pre.getD i none with
    | some v=>mQ L fs pre rest (i::done) rd (S.put o.dst (ci,v)) h K
    | none =>
     match kind P o.op with
     | .pure =>
      match o.op with
      | .pick c a b =>
       match ev S.vals c,kV S ci c&&Hv L S ci c true a&&Hv L S ci c false b with
       | .bool t,true=>opt False (CO t (ev S.vals a) (ev S.vals b)) fun v=>mQ L fs pre rest (i::done) rd (S.put o.dst (ci,v)) h K
       | _,_=>False
      | op =>
       match Qq P S.vals op,op.operands.toList.all (kV S ci) with
       | some (v,none),true=>mQ L fs pre rest (i::done) rd (S.put o.dst (ci,v)) h K
       | some (v,some c),true=>under L S ci c/\mQ L fs pre rest (i::done) rd (S.put o.dst (ci,v)) h K
       | _,_=>False
     | .read =>
      match o.op.operands.toList.all (kV S ci) with
      | true=>Kr P dy S.vals o.op h (under L S ci) fun v p=>mQ L fs pre rest (i::done) ((i,p)::rd) (S.put o.dst (ci,v)) h K
      | false=>False
     | .eff =>
      match ci,o.op.operands.toList.all (kV S ci) with
      | [],true=>OG P dy S.vals o.op h fun v h'=>wT f.am rd h' (mQ L fs pre rest (i::done) rd (S.put o.dst (ci,v)) h' K)
      | _::_,true=>match Sj o.op with
       | some t=>∃Q:KT,(lN L S ci=true->OG P dy S.vals o.op h fun v h'=>nA P dy [t] fun v'=>v=v'/\Q v' h')/\
         (lN L S ci=false->nA P dy [t] fun v'=>Q v' h)/\
         pJ P dy [t] fun v'=>∀h':Hp,Q v' h'->wT f.am rd h' (mQ L fs pre rest (i::done) rd (S.put o.dst (ci,v')) h' K)
       | none=>False
      | _,_=>False
     | .call =>
      match Co P dy S.vals o.op,o.op.operands.toList.all (kV S ci) with
      | some fa,true =>
       match ci with
       | []=>C fa.1 fa.2.1 h fun v h'=>nA P dy (fa.2.2) fun v'=>v=v'/\wT f.am rd h' (mQ L fs pre rest (i::done) rd (S.put o.dst (ci,v')) h' K)
       | _=>match pf fa.1 with
        | true=>nA P dy (fa.2.2) fun v'=>(lN L S ci=true->C fa.1 fa.2.1 h fun v h'=>v=v'/\h'=h)/\wT f.am rd h (mQ L fs pre rest (i::done) rd (S.put o.dst (ci,v')) h K)
        | false=>∃Q:KT,(lN L S ci=true->C fa.1 fa.2.1 h fun v h'=>nA P dy (fa.2.2) fun v'=>v=v'/\Q v' h')/\
          (lN L S ci=false->nA P dy (fa.2.2) fun v'=>Q v' h)/\
          pJ P dy (fa.2.2) fun v'=>∀h':Hp,Q v' h'->wT f.am rd h' (mQ L fs pre rest (i::done) rd (S.put o.dst (ci,v')) h' K)
      | _,_=>False
     | .alt =>
      match o.op,ci,o.op.operands.toList.all (kV S ci),o.dst with
      | .next it false,[],true,some d =>
       match (dy (3000000+d)).bind P.underlying with
       | some (.map kt et)=>∃l:List (Value×Hp),wM (ev S.vals it) h=some l/\∀r:Value×Hp,r∈l->
         (r.1 = .tuple #[.bool false]/\wT f.am rd r.2 (mQ L fs pre rest (i::done) rd (S.put o.dst (ci,.tuple #[.bool false])) r.2 K))\/
         (mZ P dy kt fun key _=>mZ P dy et fun val _=>r.1 = .tuple #[.bool true,key,val]/\wT f.am rd r.2 (mQ L fs pre rest (i::done) rd (S.put o.dst (ci,.tuple #[.bool true,key,val])) r.2 K))
       | _=>False
      | _,_,_,_=>False
     | .mk =>
      match ci,o.op.operands.toList.all (kV S ci) with
      | [],true=>Th P S.vals o.op h fun v h'=>mQ L fs pre rest (i::done) rd (S.put o.dst (ci,v)) h' K
      | _::_,true=>match Sj o.op with
       | some t=>∃Q:KT,(lN L S ci=true->Th P S.vals o.op h fun v h'=>nA P dy [t] fun v'=>v=v'/\Q v' h')/\
         (lN L S ci=false->nA P dy [t] fun v'=>Q v' h)/\
         pJ P dy [t] fun v'=>∀h':Hp,Q v' h'->mQ L fs pre rest (i::done) rd (S.put o.dst (ci,v')) h' K
       | none=>False
      | _,_=>False
   | _,_=>False
  | _,_=>False
end
section
variable {P:Program} {L:List Oper}
theorem Ms(b w:Bool):Tv b w=(b==w):=by cases b <;> cases w <;> rfl
theorem pR(S:SS)(j:Nat)(w:Bool)(r:Ch):lN L S ((j,w)::r)=((Qh L S j==w)&&lN L S r):=by
 cases r with
 | nil=>simp[lN,Ms]
 | cons x r=>simp only[lN,Ms,dJ]
theorem dP{S:SS}{ci:Ch}{c:Prop}:under L S ci c↔(lN L S ci=true->c):=by
 cases ci with
 | nil=>simp[under,lN]
 | cons x r=>rfl
theorem vH(S:SS)(x:Ch×Value):fin L S x=if lN L S x.1=true then x.2 else undef:=by
 unfold fin
 split
 ·rename_i h;simp[h,lN]
 ·cases lN L S x.1 <;> rfl
def Km(L:List Oper)(S:SS)(done:LN):Ch->Prop
 | []=>True
 | (j,w)::r=>(j∈done/\∃d b,BS L j=some d/\d < S.length/\S.at d=(r,.bool b))/\Km L S done r
def FK(L:List Oper)(S:SS)(done:LN):Prop:=∀t,Km L S done (S.at t).1
theorem Cs(S:SS)(d:Option Tmp)(x:Ch×Value)(t:Nat):(S.put d x).at t=if d=some t/\t < S.length then x else S.at t:=by
 cases d with
 | none=>simp[SS.put,SS.at]
 | some d =>
  simp only[SS.put,SS.at,Uz,List.getElem?_set,Um];by_cases h:d=t
  ·subst h;by_cases hl:d < S.length
   ·simp[hl]
   ·simp[hl]
  ·simp[h]
theorem Hn(S:SS)(d:Option Tmp)(x:Ch×Value):(S.put d x).length=S.length:=by
 cases d <;> simp[SS.put]
theorem As{o:Oper}{done:LN}(h:sM L done o=true){j d:Nat}(E:j∈done)(G:BS L j=some d):o.dst≠some d:=by
 unfold sM at h
 cases e:o.dst with
 | none=>simp
 | some U =>
  rw[e]at h;simp only[VK,decide_eq_true_eq]at h;intro O;exact h j E (by rw[G];exact O.symm)
theorem Km.put{S:SS}{done:LN}{o:Oper}{x:Ch×Value}{i:Nat}(E:sM L done o=true):∀{ch:Ch},Km L S done ch->Km L (S.put o.dst x) (i::done) ch
 | [],_=>trivial
 | (j,w)::r,⟨⟨G,d,b,O,U,V⟩,W⟩=>⟨⟨by simp[G],d,b,O,by rw[Hn];exact U,by rw[Cs,if_neg (fun hh=>As E G O hh.1)];exact V⟩,Km.put E W⟩
theorem Bf{S:SS}{done:LN}{o:Oper}{x:Ch×Value}(E:sM L done o=true):∀{ch:Ch},Km L S done ch->lN L (S.put o.dst x) ch=lN L S ch
 | [],_=>rfl
 | (j,w)::r,⟨⟨O,d,b,G,W,h4⟩,U⟩=>by
  rw[pR,pR,Bf E U];congr 2;unfold Qh;rw[G];simp only;rw[Cs,if_neg (fun V=>As E O G V.1)]
theorem Ck{S:SS}{done:LN}(hi:FK L S done){o:Oper}{ci:Ch}(h:uA L S done o=some ci):Km L S done ci:=by
 unfold uA at h
 split at h
 ·simp at h;subst h;trivial
 ·rename_i j w U
  split at h
  ·rename_i E
   split at h
   ·rename_i d G
    split at h
    ·rename_i hb
     simp at h;subst h;simp only[Uw,decide_eq_true_eq]at hb;refine⟨⟨by simpa using E,d,zU (S.at d).2,G,hb.1,?_⟩,hi d⟩;generalize S.at d=O at hb ⊢;obtain⟨c,v⟩:=O;simp only at hb ⊢
     cases v <;> simp[isBool]at hb
     rfl
    ·simp at h
   ·simp at h
  ·simp at h
theorem tG(S:SS)(t:Nat):(real L S).getD t undef=fin L S (S.at t):=by
 unfold real SS.at;rw[Uz,Uz,VB]
 cases S[t]? with
 | none=>rfl
 | some x=>rfl
theorem Bp(S:SS)(t:Nat):S.vals.getD t undef=(S.at t).2:=by
 unfold SS.vals SS.at;rw[Uz,Uz,VB]
 cases S[t]? with
 | none=>rfl
 | some x=>rfl
theorem ME{S:SS}{done:LN}{o:Oper}{ci:Ch}{v:Value}(hi:FK L S done)(O:sM L done o=true)(V:Km L S done ci):
  real L (S.put o.dst (ci,v))=put (real L S) o.dst (if lN L S ci=true then v else undef):=by
 apply Vi;intro t;have W:(real L (S.put o.dst (ci,v))).length=S.length:=by simp[real,Hn]
 have aa:(put (real L S) o.dst (if lN L S ci=true then v else undef)).length=S.length:=by rw[sI];simp[real]
 by_cases U:t < S.length
 ·have e1:(real L (S.put o.dst (ci,v)))[t]? = some ((real L (S.put o.dst (ci,v))).getD t undef):=by rw[Uz,Uh (by omega)];rfl
  have e2:(put (real L S) o.dst (if lN L S ci=true then v else undef))[t]? = some ((put (real L S) o.dst (if lN L S ci=true then v else undef)).getD t undef):=by rw[Uz,Uh (by omega)];rfl
  rw[e1,e2,tI,tG,tG,Cs];congr 1;by_cases E:o.dst=some t
  ·rw[if_pos ⟨E,U⟩,if_pos ⟨E,by simpa[real]using U⟩,vH,Bf O V]
  ·rw[if_neg (fun G=>E G.1),if_neg (fun G=>E G.1),vH,vH,Bf O (hi t)]
 ·rw[VI (by omega),VI (by omega)]
theorem FK.put{S:SS}{done:LN}{o:Oper}{ci:Ch}{v:Value}{i:Nat}(hi:FK L S done)(E:sM L done o=true)(G:Km L S done ci):FK L (S.put o.dst (ci,v)) (i::done):=by
 intro t;rw[Cs]
 split
 ·exact Km.put E G
 ·exact Km.put E (hi t)
theorem sD{S:SS}:∀{ci r:Ch},r <:+ ci->lN L S ci=true->lN L S r=true
 | [],r,h,hw=>by simp at h;subst h;rfl
 | (j,w)::ci,r,h,hw=>by
  rcases List.suffix_cons_iff.1 h with h | h
  ·rw[h];exact hw
  ·rw[pR]at hw;simp only[Uw]at hw;exact sD h hw.2
theorem uY{S:SS}{ci:Ch}(hw:lN L S ci=true){x:Operand}(h:kV S ci x=true):ev (real L S) x=ev S.vals x:=by
 cases x with
 | tmp t =>
  simp only[kV,List.isSuffixOf_iff_suffix]at h;simp only[ev];rw[tG,Bp,vH,if_pos (sD h hw)]
 | _=>rfl
theorem EB{S:SS}{ci:Ch}(hw:lN L S ci=true){c x:Operand}{b:Bool}(E:ev S.vals c = .bool b)(h:Hv L S ci c b x=true):ev (real L S) x=ev S.vals x:=by
 unfold Hv at h;rw[Vh]at h;rcases h with h | h
 ·exact uY hw h
 ·split at h
  ·rename_i O t
   split at h
   ·rename_i j w r hr
    simp only[Uw,decide_eq_true_eq,beq_iff_eq,List.isSuffixOf_iff_suffix]at h;obtain⟨⟨rfl,G⟩,hs⟩:=h;simp only[ev]at E ⊢;rw[tG,Bp,vH,hr,pR,sD hs hw];have:Qh L S j=w:=by
     unfold Qh;rw[G];simp only;rw[<-Bp,E]
     rfl
    simp[this]
   ·simp at h
  ·simp at h
theorem FQ{S:SS}{done:LN}(hi:FK L S done){o:Oper}{ci:Ch}(h:uA L S done o=some ci):wants L (real L S) o=some (lN L S ci):=by
 unfold uA at h;unfold wants
 split at h
 ·rename_i G;simp at h;subst h;rw[G];rfl
 ·rename_i j w G
  rw[G]
  split at h
  ·rename_i W
   split at h
   ·rename_i d V
    split at h
    ·rename_i hb
     simp at h;subst h;simp only[Uw,decide_eq_true_eq]at hb;simp only;have O:(L[j]?).bind (·.dst)=some d:=V;rw[O];simp only;rw[tG,vH,pR];have U:Qh L S j=zU (S.at d).2:=by unfold Qh;rw[V]
     rw[U];generalize S.at d=cv at hb ⊢;obtain⟨c,v⟩:=cv;simp only at hb ⊢
     cases v <;> simp[isBool]at hb
     rename_i b
     by_cases E:lN L S c=true
     ·simp[E,xR,zU]
     ·simp[E,xR,zU,undef]
    ·simp at h
   ·simp at h
  ·simp at h
end
section
variable {P:Program} {L:List Oper} {dy:Nat->Option TI}
theorem KQ{t:TI}{f:Value->Prop}(h:Ed dy t f):∃v,f v:=by
 unfold Ed at h
 split at h
 ·obtain⟨a,h⟩:=h;exact⟨_,h⟩
 ·exact h
theorem KO{t:TI}{f:Value->Prop}(h:Ec dy t f):∃v,f v:=by
 unfold Ec at h
 split at h
 ·split at h
  ·obtain⟨a,h⟩:=h;exact⟨_,h⟩
  ·obtain⟨a,h⟩:=h;exact⟨_,h⟩
 ·exact h
theorem KR{t:TI}{f g:Value->Prop}(h:Ed dy t f)(k:vT dy t g):∃v,f v/\g v:=by
 unfold Ed at h;unfold vT at k
 cases E:dy t with
 | none=>simp only[E]at h k;obtain⟨v,h⟩:=h;exact⟨v,h,k v⟩
 | some T=>simp only[E]at h k;obtain⟨v,h⟩:=h;exact⟨_,h,k v⟩
theorem KP{t:TI}{f g:Value->Prop}(h:Ec dy t f)(k:vS dy t g):∃v,f v/\g v:=by
 unfold Ec at h;unfold vS at k
 cases E:dy t with
 | none=>simp only[E]at h k;obtain⟨v,h⟩:=h;exact⟨v,h,k v⟩
 | some T =>
  simp only[E]at h k
  cases hb:Nat.beq T Hb with
  | true=>simp only[hb]at h k;obtain⟨v,h⟩:=h;exact⟨_,h,k v⟩
  | false=>simp only[hb]at h k;obtain⟨v,h⟩:=h;exact⟨_,h,k v⟩
theorem zH{t:TI}{f:Value->Prop}(h:vI P dy t f):∃v,f v:=by
 unfold vI at h
 split at h
 ·obtain⟨b,h⟩:=h;exact⟨_,h⟩
 ·obtain⟨b,h⟩:=h;exact⟨_,h⟩
 ·obtain⟨b,h⟩:=h;exact⟨_,h⟩
 ·obtain⟨a,l,c,h⟩:=h;exact⟨_,h⟩
 ·obtain⟨a,h⟩:=h;exact⟨_,h⟩
 ·obtain⟨a,h⟩:=h;exact⟨_,h⟩
 ·exact KQ h
 ·exact KO h
 ·exact h
theorem qH:∀{E:List (TI×Nat)} {f:LV->Prop},oW P dy E f->∃vs,f vs
 | [],f,h=>⟨[],h⟩
 | (t,0)::E,f,h=>by
  obtain⟨v,h⟩:=zH h;obtain⟨vs,h⟩:=qH h;exact⟨_,h⟩
 | (t,n+1)::E,f,h=>by
  unfold oW at h
  split at h
  ·obtain⟨D,h⟩:=h;obtain⟨vs,h⟩:=qH h;exact⟨_,h⟩
  ·exact h.elim
theorem gE{t:TI}{f:Value->LV->Prop}(h:mZ P dy t f):∃v cs,f v cs/\(agg? P t=some true/\v = .agg cs.toArray\/agg? P t=some false/\cs=[v]):=by
 unfold mZ at h
 split at h
 ·rename_i E
  split at h
  ·obtain⟨vs,h⟩:=qH h;exact⟨_,vs,h,.inl ⟨E,rfl⟩⟩
  ·exact h.elim
 ·rename_i E
  obtain⟨v,h⟩:=zH h;exact⟨v,_,h,.inr ⟨E,rfl⟩⟩
 ·exact h.elim
theorem wH:∀{E:List TI} {g:LV->Prop},nA.go P dy E g->∃vs,g vs
 | [],g,h=>⟨[],h⟩
 | t::E,g,h=>by
  obtain⟨v,_,h,_⟩:=gE h;obtain⟨vs,h⟩:=wH h;exact⟨_,h⟩
theorem BR{E:List TI}{f:Value->Prop}(h:nA P dy E f):∃v,f v:=by
 unfold nA at h
 split at h
 ·obtain⟨v,_,h,_⟩:=gE h;exact⟨v,h⟩
 ·obtain⟨vs,h⟩:=wH h;exact⟨_,h⟩
theorem zI{t:TI}{f g:Value->Prop}(h:vI P dy t f)(k:lK P dy t g):∃v,f v/\g v:=by
 unfold vI at h;unfold lK at k
 cases hu:P.underlying t with
 | none=>simp only[hu]at h k;obtain⟨v,h⟩:=h;exact⟨v,h,k v⟩
 | some d =>
  simp only[hu]at h k
  cases d
  case bool=>obtain⟨b,h⟩:=h;exact⟨_,h,k b⟩
  case int=>obtain⟨b,h⟩:=h;exact⟨_,h,k b⟩
  case string=>obtain⟨b,h⟩:=h;exact⟨_,h,k b⟩
  case map=>obtain⟨b,h⟩:=h;exact⟨_,h,k b⟩
  case slice=>obtain⟨a,l,c,h⟩:=h;exact⟨_,h,k a l c⟩
  case pointer=>obtain⟨a,h⟩:=h;exact⟨_,h,k a⟩
  case interface=>exact KR h k
  case func=>exact KP h k
  all_goals
   obtain⟨v,h⟩:=h;exact⟨v,h,k v⟩
theorem qI:∀{E:List (TI×Nat)} {f g:LV->Prop},oW P dy E f->pI P dy E g->∃vs,f vs/\g vs
 | [],f,g,h,k=>⟨[],h,k⟩
 | (t,0)::E,f,g,h,k=>by
  obtain⟨v,h,k⟩:=zI h k;obtain⟨vs,h,k⟩:=qI h k;exact⟨_,h,k⟩
 | (t,n+1)::E,f,g,h,k=>by
  unfold oW at h;unfold pI at k
  split at h
  ·rename_i e
   rw[e]at k;obtain⟨D,h⟩:=h;obtain⟨vs,h,k⟩:=qI h (k D);exact⟨_,h,k⟩
  ·exact h.elim
theorem BQ{t:TI}{f:Value->LV->Prop}{g:Value->Prop}(h:mZ P dy t f)(k:vR P dy t g):∃v cs,f v cs/\g v:=by
 unfold mZ at h;unfold vR at k
 split at h
 ·rename_i E
  rw[E]at k;simp only at k
  split at h
  ·rename_i O G
   rw[G]at k;obtain⟨vs,h,k⟩:=qI h k;exact⟨_,vs,h,k⟩
  ·exact h.elim
 ·rename_i E
  rw[E]at k;obtain⟨v,h,k⟩:=zI h k;exact⟨v,_,h,k⟩
 ·exact h.elim
theorem wI:∀{E:List TI} {f g:LV->Prop},nA.go P dy E f->pJ.go P dy E g->∃vs,f vs/\g vs
 | [],f,g,h,k=>⟨[],h,k⟩
 | t::E,f,g,h,k=>by
  obtain⟨v,_,h,k⟩:=BQ h k;obtain⟨vs,h,k⟩:=wI h k;exact⟨_,h,k⟩
theorem lQ{G:List TI}{f g:Value->Prop}(h:nA P dy G f)(k:pJ P dy G g):∃v,f v/\g v:=by
 unfold nA at h;unfold pJ at k
 split at h
 ·obtain⟨v,_,h,k⟩:=BQ h k;exact⟨v,h,k⟩
 ·rename_i E
  split at k
  ·rename_i t;exact absurd rfl (E t)
  ·obtain⟨vs,h,k⟩:=wI h k;exact⟨_,h,k⟩
theorem HK{tm:LV}{op:Op}{E:FuncId×LV×List TI}(h:Co P dy tm op=some E):callee P tm op=some (E.1,E.2.1):=by
 unfold Co at h;unfold callee
 split at h
 ·rename_i f args O
  simp only
  split at h
  ·rename_i g first captured he
   split at h
   ·rename_i G
    rw[he];simp only;rw[if_pos (of_decide_eq_true G)];simp only[Um]at h;subst h;rfl
   ·simp at h
  ·rename_i l first captured he
   split at h
   ·rename_i U V
    rw[he];simp only;have e1:first = #[]:=by simpa using U
    have e2:captured = #[]:=by simpa using V
    subst e1;subst e2;rw[if_pos ⟨rfl,rfl⟩];simp only[Um]at h;subst h;rfl
   ·simp at h
  ·simp at h
 ·rename_i r name args O
  simp only
  split at h
  ·rename_i t v he
   split at h
   ·rename_i g hm
    split at h
    ·rename_i G hu
     rw[he];simp only[hm];rw[if_pos (by rw[show decide (g < P.funcs.size)=true from G,hu];rfl)];simp only[Um]at h;subst h;rfl
    ·simp at h
   ·simp at h
  ·simp at h
 ·simp at h
theorem KW{tm:LV}{it:Operand}{h:Hp}:OE tm (.next it false) h=wM (ev tm it) h:=rfl
theorem DF{tm:LV}{op:Op}{h:Hp}{S:SS}{ci:Ch}{k:Value->(Hp->Prop)->Prop}(hk:kind P op = .read)(E:Kr P dy tm op h (under L S ci) k):
  ∃v p,(lN L S ci=true->rop P tm op h=some v)/\k v p/\(lN L S ci=true->∀h',p h'->rop P tm op h'=some v):=by
 unfold Kr at E
 split at E
 ·rename_i t x
  split at E
  ·rename_i a n he hs
   obtain⟨v,cs,E,h3⟩:=gE E
   split at E
   case isFalse=>exact E.elim
   rename_i hl
   obtain⟨G,O⟩:=E;have main:∀h',aN a=true/\h'.cellsAt (blk a) (off a) n=some cs->rop P tm (.load t x) h'=some v:=by
    rintro h' ⟨hp,U⟩;unfold rop;simp only[nB];rw[he,jQ hp];rcases h3 with ⟨W,rfl⟩ | ⟨W,rfl⟩
    ·simp only[W,hs];simp[U]
    ·simp only[W,hs];simp at hl;subst hl;simp[U]
   exact⟨v,_,fun hw=>main h (dP.1 G hw),O,fun hw h' hp=>main h' (dP.1 hp hw)⟩
  ·exact E.elim
 ·rename_i src dst x
  split at E
  ·rename_i e a l c hu hd he
   split at E
   ·rename_i V
    obtain⟨s,G,O⟩:=E;have main:∀h',fU a l h' s->rop P tm (.convert src dst x) h'=some (.string s):=by
     intro h' hr;unfold rop;simp only;rw[hu,hd,he];rcases hr with ⟨rfl,rfl⟩ | ⟨hs,cs,U,hb⟩
     ·simp only[V]
     ·cases a with
      | none=>simp at hs
      | some a =>
       obtain⟨b,o,sp⟩:=a;simp only[blk,off]at U;simp only[V,U,hb,Uv]
    exact⟨.string s,_,fun hw=>main h (dP.1 G hw),O,fun hw h' hp=>main h' (dP.1 hp hw)⟩
   ·exact E.elim
  ·exact E.elim
 ·rename_i t x ix ok
  split at E
  ·rename_i kt et hu
   obtain⟨v,cs,E,_⟩:=gE E
   cases ok with
   | true =>
    obtain⟨b,G,O⟩:=E;exact⟨_,_,fun hw=>dP.1 G hw,O,fun hw h' hp=>dP.1 hp hw⟩
   | false=>exact⟨_,_,fun hw=>dP.1 E.1 hw,E.2,fun hw h' hp=>dP.1 hp hw⟩
  ·exact E.elim
 ·rename_i sl
  split at E
  ·rename_i kt et hu
   obtain⟨key,_,E,_⟩:=gE E;obtain⟨val,_,E,_⟩:=gE E;obtain⟨G,O⟩:=E;exact⟨_,_,fun hw=>dP.1 G hw,O,fun hw h' hp=>dP.1 hp hw⟩
  ·exact E.elim
 ·rename_i args aa
  split at E
  ·rename_i x xs hl e
   obtain⟨es,G,O⟩:=E;have main:∀h',(∃fs:List MapEntry,mapOf h' (ev tm x)=some fs/\fs.length=es.length)->rop P tm (.call {callee:=.builtin .len,args:=args,argTypes:=aa}) h'=some (.int .i64 es.length):=by
    rintro h' ⟨fs,k1,k2⟩;unfold rop;simp only[hl,if_true,e,k1,Uv,k2]
   exact⟨_,_,fun hw=>main h ⟨es,dP.1 G hw,rfl⟩,O,fun hw h' hp=>main h' (dP.1 hp hw)⟩
  ·exact E.elim
 ·obtain⟨s,G,O⟩:=E;exact⟨_,_,fun hw=>dP.1 G hw,O,fun hw h' hp=>dP.1 hp hw⟩
theorem yG{am:Nat}{h:Hp}{X:Prop}:∀{rd:Rd},wT am rd h X->X/\∀i p,(i,p)∈rd->am.testBit i=false->p h
 | [],E=>⟨E,by simp⟩
 | (i,p)::rest,E=>by
  unfold wT at E
  split at E
  ·rename_i W
   obtain⟨U,V⟩:=yG E;refine⟨U,fun j q G O=>?_⟩;rcases VM.1 G with e | G
   ·cases e;rw[W]at O;simp at O
   ·exact V j q G O
  ·obtain⟨U,V⟩:=yG E.2;refine⟨U,fun j q G O=>?_⟩;rcases VM.1 G with e | G
   ·cases e;exact E.1
   ·exact V j q G O
theorem xU{tm:LV}{op:Op}{h:Hp}{k:KT}(E:OG P dy tm op h k):∃v h',AX P tm op h=some (v,h')/\k v h':=by
 unfold OG at E
 split at E
 ·rename_i t a x
  unfold AX;simp only
  split at E
  ·rename_i a n he hs
   split at E
   ·rename_i U
    obtain⟨hp,h',dN,E⟩:=E;refine⟨undef,h',?_,E⟩;rw[he,jQ hp];simp only[hs,U,if_true];simp only[blk,off]at dN ⊢;rw[dN];rfl
   ·exact E.elim
  ·exact E.elim
 ·obtain⟨h',G,O⟩:=E;exact⟨_,_,by unfold AX;simp only[G,Uv],O⟩
 ·obtain⟨h',G,O⟩:=E;exact⟨_,_,by unfold AX;simp only[G,Uv],O⟩
 ·split at E
  ·obtain⟨v,cs,⟨n,h',G,O⟩,_⟩:=gE E;exact⟨_,_,G,O⟩
  ·exact E.elim
 ·obtain⟨h',G,O⟩:=E;exact⟨_,_,by unfold AX;simp only[G,Uv],O⟩
 ·obtain⟨h',G,O⟩:=E;exact⟨_,_,G,O⟩
 ·rename_i args argTypes
  unfold AX;simp only
  split at E
  ·rename_i t W m x e1 e2
   obtain⟨h',G,O⟩:=E;exact⟨_,_,by rw[e1,e2];exact G,O⟩
  ·exact E.elim
 ·obtain⟨a,m,n,h',G,O⟩:=E;exact⟨_,_,G,O⟩
 ·rename_i args argTypes
  unfold AX;simp only
  split at E
  ·rename_i t xt s x e1 e2
   obtain⟨a,m,n,h',G,O⟩:=E;exact⟨_,_,by rw[e1,e2];exact G,O⟩
  ·exact E.elim
 ·rename_i args argTypes
  unfold AX;simp only
  split at E
  ·rename_i t W d x e1 e2
   obtain⟨n,h',G,O⟩:=E;exact⟨_,_,by rw[e1,e2];exact G,O⟩
  ·exact E.elim
 ·rename_i args argTypes
  unfold AX;simp only
  split at E
  ·rename_i t W x e1 e2
   obtain⟨h',G,O⟩:=E;exact⟨_,_,by rw[e1,e2];exact G,O⟩
  ·exact E.elim
 ·rename_i src dst x
  unfold AX;simp only
  split at E
  ·rename_i e s hu hd he
   split at E
   ·rename_i V
    rw[hu,hd,he];simp only[V];exact⟨_,_,rfl,E _ rfl⟩
   ·exact E.elim
  ·exact E.elim
 ·cases he:AX P tm op h with
  | none=>simp[he,opt]at E
  | some r=>simp only[he,opt]at E;exact⟨r.1,r.2,rfl,E _ rfl⟩
theorem Af{tm:LV}{op:Op}{h:Hp}{k:KT}(E:Th P tm op h k):∃v h',tM P tm op h=some (v,h')/\k v h':=by
 unfold Th at E
 split at E
 ·rename_i e x
  split at E
  ·exact E.elim
  ·rename_i hu
   exact⟨_,_,by simp only[tM,mkOf];rw[if_neg hu];rfl,E _ rfl⟩
 ·rename_i t len parts
  split at E
  ·rename_i e hu
   split at E
   ·rename_i n z hs O
    split at E
    ·exact E.elim
    ·rename_i U
     cases hi:P.info? e with
     | none=>simp[size?,hi]at hs
     | some i =>
      simp only[size?,hi,Uv,Um]at hs;simp only[zero?,hi,Ul]at O;subst hs
      cases G:tY (fun j=>some (j * i.size,i.size)) (zeroCells z.cells.toList len) (parts.toList.map fun(j,x)=>(j,ev tm x)) with
      | none=>simp[G,opt]at E
      | some cs =>
       simp only[G,opt]at E;refine⟨_,_,?_,E _ rfl⟩;simp only[tM,mkOf,hu,hi,O];rw[if_neg U,G]
       rfl
   ·exact E.elim
  ·exact E.elim
 ·exact⟨_,_,rfl,E _ rfl⟩
 ·exact E.elim
theorem KC{b:Bool}{x y v:Value}(h:CO b x y=some v):v=if b=true then x else y:=by
 unfold CO at h
 cases b with
 | true=>split at h <;> first | (simp at h;done) | (simp[aR]at h;simp_all;done) | (split at h <;> simp[aR]at h;simp_all)
 | false=>split at h <;> first | (simp at h;done) | (simp[aR]at h;simp_all;done) | (split at h <;> simp[aR]at h;simp_all)
theorem sE{pf:FuncId->Bool}{fs:List Inf}{pre:List OV}:∀(ad:LN) {done:LN} {rd:Rd} {S:SS} {h:Hp} {bF:List Owed} {K:LV->Hp->Prop},FK L S done->(∀d∈bF,∃p,(d.idx,p)∈rd/\∀h',p h'->rop P d.tm d.op h'=some d.v)->
  mQ P dy (SCalls P) pf L fs pre ad done rd S h K->xDraw P alP (SCalls P) L fs pre ad (real L S) bF h K
 | [],done,rd,S,h,bF,K,hi,W,E=>E
 | i::rest,done,rd,S,h,bF,K,hi,W,E=>by
  have aa:∀{am:Nat} {h:Hp} {X r:Prop},wT am rd h X->(X->r)->eY P alP am h bF r:=by
   intro am h X r hb hr;obtain⟨h1,O⟩:=yG hb;have h1:=hr h1;unfold eY;clear hb hr
   revert W
   induction bF with
   | nil=>intro _;exact h1
   | cons d l ih =>
    intro W;simp only[Vv];have hr:=ih fun d hd=>W d (by simp[hd])
    split
    ·exact hr
    ·rename_i hb
     obtain⟨p,h3,h4⟩:=W d (by simp);exact⟨h4 _ (O _ _ h3 (by simpa using hb)),hr⟩
  simp only[mQ]at E;simp only[xDraw]
  split at E
  ·rename_i o f e1 e2
   rw[e1,e2];simp only
   split at E
   ·rename_i ci ak al
    have an:=Ck hi ak;rw[FQ hi ak];simp only;have next:∀{v:Value} {ah:Rd} {h':Hp} {iU:List Owed},(∀d∈iU,∃p,(d.idx,p)∈ah/\∀h',p h'->rop P d.tm d.op h'=some d.v)->mQ P dy (SCalls P) pf L fs pre rest (i::done) ah (S.put o.dst (ci,v)) h' K->
      xDraw P alP (SCalls P) L fs pre rest (put (real L S) o.dst (if lN L S ci=true then v else undef)) iU h' K:=by
     intro v ah h' iU ao hv;rw[<-ME hi al an];exact sE rest (hi.put al an) ao hv
    have U:∀{op:Op},op.operands.toList.all (kV S ci)=true->lN L S ci=true->mP (real L S) S.vals op:=fun ae hw x E=>uY hw (VK.1 ae x E)
    split at E
    ·rename_i v hv
     rw[hv];exact next W E
    ·rename_i ai
     rw[ai];simp only
     split at E
     ·rename_i V
      rw[V];simp only;have pure:∀{v:Value},(lN L S ci=true->pop P (real L S) o.op=some v)->mQ P dy (SCalls P) pf L fs pre rest (i::done) rd (S.put o.dst (ci,v)) h K->
        opt alP.bot (if lN L S ci=true then pop P (real L S) o.op else some undef) fun v=>xDraw P alP (SCalls P) L fs pre rest (put (real L S) o.dst v) bF h K:=by
       intro v hp hv;have:=next W hv;by_cases hw:lN L S ci=true
       ·rw[if_pos hw]at this ⊢;rw[hp hw];exact this
       ·rw[if_neg hw]at this ⊢;exact this
      split at E
      ·rename_i c a b ae
       split at E
       ·rename_i t hc G
        simp only[Uw]at G
        cases hm:CO t (ev S.vals a) (ev S.vals b) with
        | none=>simp[hm,opt]at E
        | some v =>
         simp only[hm,opt]at E;refine pure (fun hw=>?_) E;rw[ae];unfold pop;simp only;rw[uY hw G.1.1,hc];rw[KC hm]
         cases t with
         | true=>simp only[if_true];rw[EB hw hc G.1.2]
         | false=>simp only[VA,if_false];rw[EB hw hc G.2]
       ·exact E.elim
      ·split at E
       ·rename_i v hv G
        refine pure (fun hw=>?_) E;rw[uU (U G hw)];exact xT hv trivial
       ·rename_i v c hv G
        obtain⟨h1,O⟩:=E;refine pure (fun hw=>?_) O;rw[uU (U G hw)];exact xT hv (dP.1 h1 hw)
       ·exact E.elim
     ·rename_i V
      rw[V];simp only
      split at E
      ·rename_i G
       obtain⟨v,p,h1,O,h3⟩:=DF V E;have:=next (iU:=if lN L S ci=true then⟨i,o.op,real L S,v⟩::bF else bF) (by
        intro d hd;have old:d∈bF->∃q,(d.idx,q)∈(i,p)::rd/\∀h',q h'->rop P d.tm d.op h'=some d.v:=fun hd=>by
         obtain⟨q,h4,h5⟩:=W d hd;exact⟨q,WL _ h4,h5⟩
        split at hd
        ·rename_i hw
         rcases VM.1 hd with rfl | hd
         ·exact⟨p,by simp,fun h' hp=>by rw[uT (U G hw)];exact h3 hw h' hp⟩
         ·exact old hd
        ·exact old hd) O
       by_cases hw:lN L S ci=true
       ·rw[if_pos hw,if_pos hw]at this;rw[if_pos hw,uT (U G hw),h1 hw];simp only[hw,if_true];exact this
       ·rw[if_neg hw,if_neg hw]at this;rw[if_neg hw];simp only[hw];exact this
      ·exact E.elim
     ·rename_i V
      rw[V];simp only
      split at E
      ·rename_i G
       obtain⟨v,h',h1,O⟩:=xU E;have hw:lN L S []=true:=rfl;rw[if_pos hw,vJ (U G hw),h1];refine aa O fun O=>?_;have:=next W O;rw[if_pos hw]at this;exact this
      ·rename_i c0 cr G
       split at E
       ·rename_i ty ap
        obtain⟨Q,af,ag,ac⟩:=E;by_cases hw:lN L S (c0::cr)=true
        ·rw[if_pos hw,vJ (U G hw)];obtain⟨v,h',h1,O⟩:=xU (af hw);rw[h1];obtain⟨v',⟨rfl,h3⟩,h4⟩:=lQ O ac;refine aa (h4 _ h3) fun h5=>?_;have:=next W h5;rw[if_pos hw]at this;exact this
        ·rw[if_neg hw];obtain⟨v',h3,h4⟩:=lQ (ag (by simpa using hw)) ac;refine aa (h4 _ h3) fun h5=>?_;have:=next W h5;rw[if_neg hw]at this;exact this
       ·exact E.elim
      ·exact E.elim
     ·rename_i V
      rw[V];simp only
      split at E
      ·rename_i fa aq G
       have aj:=HK aq
       split at E
       ·have hw:lN L S []=true:=rfl;rw[if_pos hw,lJ (U G hw),aj];refine E.mono fun v h' hv=>?_;obtain⟨v',rfl,O⟩:=BR hv;refine aa O fun O=>?_;have:=next W O;rw[if_pos hw]at this;exact this
       ·split at E
        ·obtain⟨v',h1,O⟩:=BR E;by_cases hw:lN L S ci=true
         ·rw[if_pos hw];rw[lJ (U G hw),aj];refine(h1 hw).mono fun v h' hv=>?_;obtain⟨rfl,rfl⟩:=hv;refine aa O fun O=>?_;have:=next W O;rw[if_pos hw]at this;exact this
         ·rw[if_neg hw];refine aa O fun O=>?_;have:=next W O;rw[if_neg hw]at this;exact this
        ·obtain⟨Q,af,ag,ac⟩:=E;by_cases hw:lN L S ci=true
         ·rw[if_pos hw,lJ (U G hw),aj];refine(af hw).mono fun v h' hv=>?_;obtain⟨v',⟨rfl,h1⟩,O⟩:=lQ hv ac;refine aa (O _ h1) fun O=>?_;have:=next W O;rw[if_pos hw]at this;exact this
         ·rw[if_neg hw];obtain⟨v',h1,O⟩:=lQ (ag (by simpa using hw)) ac;refine aa (O _ h1) fun O=>?_;have:=next W O;rw[if_neg hw]at this;exact this
      ·exact E.elim
     ·rename_i V
      rw[V];simp only
      split at E
      ·rename_i it d av ax ar
       have ae:o.op = .next it false:=by assumption
       have G:o.op.operands.toList.all (kV S [])=true:=by assumption
       have hw:lN L S []=true:=rfl
       split at E
       ·rename_i kt et ay
        obtain⟨l,hl,hr⟩:=E;rw[if_pos hw,BZ (U G hw),ae];rw[KW,hl];intro r au;obtain⟨x,E,rfl⟩:=Uu.1 au;rcases hr x E with ⟨e,O⟩ | O
        ·refine aa O fun O=>?_;have:=next W O;rw[if_pos hw]at this;rw[e];exact this
        ·obtain⟨key,_,O,_⟩:=gE O;obtain⟨val,_,⟨e,O⟩,_⟩:=gE O;refine aa O fun O=>?_;have:=next W O;rw[if_pos hw]at this;rw[e];exact this
       ·exact E.elim
      ·exact E.elim
     ·rename_i V
      rw[V];simp only
      split at E
      ·rename_i G
       obtain⟨v,h',h1,O⟩:=Af E;have hw:lN L S []=true:=rfl;rw[if_pos hw,yK (U G hw),h1];have:=next W O;rw[if_pos hw]at this;exact this
      ·rename_i c0 cr G
       split at E
       ·rename_i ty ap
        obtain⟨Q,af,ag,ac⟩:=E;by_cases hw:lN L S (c0::cr)=true
        ·rw[if_pos hw,yK (U G hw)];obtain⟨v,h',h1,O⟩:=Af (af hw);rw[h1];obtain⟨v',⟨rfl,h3⟩,h4⟩:=lQ O ac;have:=next W (h4 _ h3);rw[if_pos hw]at this;exact this
        ·rw[if_neg hw];obtain⟨v',h3,h4⟩:=lQ (ag (by simpa using hw)) ac;have:=next W (h4 _ h3);rw[if_neg hw]at this;exact this
       ·exact E.elim
      ·exact E.elim
   ·exact E.elim
  ·exact E.elim
end
section
variable (P:Program)
def PR(n:Nat):List Inf:=List.replicate n ⟨0,2 ^ n - 1,0,0,false⟩
def Tu:OV->Bool
 | some _=>true
 | none=>false
def aI(a b:Nat):Prop:=a < b
variable (dy:Nat->Option TI)
def CG(t:TI)(v:Value):Bool :=
 match P.underlying t with
 | some (.interface _)=>match dy t with
  | none=>true
  | some T=>match v with
   | .iface T' (.pointer _)=>Nat.beq T' T
   | _=>false
 | some (.func _ _ _)=>match dy t with
  | none=>true
  | some g=>match Nat.beq g Hb,v with
   | true,.func (.yield _) ⟨[]⟩ ⟨[]⟩=>true
   | false,.func (.func g') ⟨[]⟩ _=>Nat.beq g' g
   | _,_=>false
 | u=>match u,v with
  | some .bool,.bool _=>true
  | some (.int k),.int k' _=>k==k'
  | some .string,.string _=>true
  | some (.slice _),.slice _ _ _=>true
  | some (.pointer _),.pointer _=>true
  | some (.map _ _),.map _=>true
  | _,_=>false
def CX(b:Bool)(X:Prop):Prop :=
 match b with
 | true=>X
 | false=>False
def gY:List TI->LV->Bool
 | [],[]=>true
 | t::ts,v::vs=>CG P dy t v&&gY ts vs
 | _,_=>false
def vM(shp:Nat->List (Tmp×TI))(n:Nat):Option TI:=(shp (2000000+n)).head?.map (·.2)
def SK(x:ON)(l:List ON):List ON:=if l.contains x then l else x::l
def mY:Code->List ON->List ON
 | .seq a b,l=>mY a (mY b l)
 | .cond _ a b,l=>mY a (mY b l)
 | .block id c,l=>((mY c []).filter (fun x=>!(x==some id))).foldl (fun l x=>SK x l) l
 | .loop c,l=>mY c l
 | .scope c,l=>mY c l
 | .exit id,l=>SK (some id) l
 | .ret,l=>SK none l
 | _,l=>l
def Sz:ON->Code
 | none=>.ret
 | some id=>.exit id
def Sh:ON->Exit
 | none=>.ret
 | some id=>.exit id
def Lp.isReady(r:Lp):Prop:=r.state = .ready/\r.pending=none
def Lp.busy(r:Lp):Lp:={r with state:=.busy}
def Lp.left(r:Lp)(x:ON):Lp:={r with state:=.done,pending:=some (Sz x)}
def Lp.gone(r:Lp):Lp:={r with state:=.exhausted}
def Tw(l:Nat)(r:Lp)(K:KT)(e:Exit)(h:Hp):Prop :=
 match e with
 | .normal=>loopAt h l=some r.busy/\∀h':Hp,h'=h.setOb l (.loop r)->K (.bool true) h'
 | .ret=>loopAt h l=some r.busy/\∀h':Hp,h'=h.setOb l (.loop (r.left none))->K (.bool false) h'
 | .exit id=>loopAt h l=some r.busy/\∀h':Hp,h'=h.setOb l (.loop (r.left (some id)))->K (.bool false) h'
 | _=>False
def Gm(l:Nat)(r:Lp)(k:Exit->Hp->Prop)(h:Hp):List ON->Prop
 | []=>loopAt h l=some r/\∀h':Hp,h'=h.setOb l (.loop r.gone)->k .normal h'
 | x::xs=>(loopAt h l=some (r.left x)/\∀h':Hp,h'=h.setOb l (.loop (r.left x).gone)->k (Sh x) h')\/Gm l r k h xs
variable (C:FuncId->LV->Hp->KT->Prop) (pf:FuncId->Bool)
def vC(shp:Nat->List (Tmp×TI))(top:Bool):Code->(Exit->LV->Hp->Prop)->LV->Hp->Prop
 | .skip,k,tm,h=>k .normal tm h
 | .region _ ops false,k,tm,h=>mQ P (vM shp) C pf ops.toList (PR ops.size) [] (List.range ops.size) [] [] (tm.map fun v=>([],v)) h fun tm h=>k .normal tm h
 | .region _ ops true,k,tm,h =>
  match orderOk (infos P ops.toList) (oT (infos P ops.toList) ops.toList.length (List.range ops.toList.length) 0) [] 0 0,preAlloc P ops.toList h with
  | true,some r =>
   match r.1.any Tu with
   | false=>mQ P (vM shp) C pf ops.toList (infos P ops.toList) r.1 (oT (infos P ops.toList) ops.toList.length (List.range ops.toList.length) 0) [] [] (tm.map fun v=>([],v)) r.2 fun tm h=>k .normal tm h
   | true=>∀h':Hp,h'=r.2->mQ P (vM shp) C pf ops.toList (infos P ops.toList) r.1 (oT (infos P ops.toList) ops.toList.length (List.range ops.toList.length) 0) [] [] (tm.map fun v=>([],v)) h' fun tm h=>k .normal tm h
  | _,_=>False
 | .seq a b,k,tm,h =>
  match shp (CV b) with
  | []=>vC shp top a (fun e tm h=>match e with
   | .normal=>vC shp top b k tm h
   | e=>k e tm h) tm h
  | s::ss =>
   let kp:=(s::ss).map (·.1)
   let ts:=(s::ss).map (·.2)
   let eC:=forget (wr a) kp tm
   ∃J:LV->Hp->Prop,vC shp top a (fun e dE h'=>match e with
     | .normal=>CX (gY P (vM shp) ts (kp.map fun t=>dE.getD t undef)) (J (kp.map fun t=>dE.getD t undef) h')
     | e=>k e dE h') tm h/\
    uI P (vM shp) ts fun vals=>∀h:Hp,J vals h->vC shp top b k (eK kp vals 0 eC) h
 | .cond c a b,k,tm,h =>
  match ev tm c with
  | .bool t=>if t=true then vC shp top a k tm h else vC shp top b k tm h
  | _=>False
 | .block id c,k,tm,h=>vC shp top c (fun e tm h=>match e with
   | .exit i=>if i=id then k .normal tm h else k (.exit i) tm h
   | e=>k e tm h) tm h
 | .loop c,k,tm,h =>
  let kp:=(shp ((aX c).getD 0)).map (·.1)
  let ts:=(shp ((aX c).getD 0)).map (·.2)
  let eC:=forget (wr c) kp tm
  match IB kp with
  | true=>False
  | false =>
  ∃I:LV->Nat->Hp->Prop,(CX (gY P (vM shp) ts (kp.map fun t=>tm.getD t undef)) (∃m,I (kp.map fun t=>tm.getD t undef) m h))/\
   uI P (vM shp) ts fun vals=>∀(m:Nat) (h:Hp),I vals m h->vC shp top c (fun e dE h'=>match e with
    | .normal=>CX (gY P (vM shp) ts (kp.map fun t=>dE.getD t undef)) (∃m',aI m' m/\I (kp.map fun t=>dE.getD t undef) m' h')
    | e=>k e dE h') (eK kp vals 0 eC) h
 | .exit id,k,tm,h=>k (.exit id) tm h
 | .ret,k,tm,h=>k .ret tm h
 | .label _,k,tm,h=>k .normal tm h
 | .scope c,k,tm,h=>vC shp top c (fun e tm h=>match e with
   | .goto _=>False
   | e=>k e tm h) tm h
 | .rangeFunc g ps asg body,k,tm,h =>
  match top,ev tm g with
  | true,.func (.func f) first captured =>
   match Mq P f,Nat.beq (shp (4000000+(aX body).getD 0)).length ps.size with
   | true,true=>∀(r0:Lp) (h0:Hp),r0.isReady->h0=h.newOb (.loop r0)->
     (pJ.go P (vM shp) ((shp (4000000+(aX body).getD 0)).map (·.2)) fun vs=>∀(h1:Hp) (K1:KT),loopAt h1 h.next=some r0->
      vC shp false asg (fun e tm h2=>match e with
       | .normal=>loopAt h2 h.next=some r0/\∀h3:Hp,h3=h2.setOb h.next (.loop r0.busy)->vC shp false body (fun e _ h'=>Tw h.next r0 K1 e h') tm h3
       | _=>False) (setArgs ps.toList vs tm) h1->C (yld P h.next) vs h1 K1)->
     C f (first.toList++[.func (.yield h.next) #[] #[]]++captured.toList) h0 fun _ h'=>Gm h.next r0 (fun e h=>k e tm h) h' (mY body [])
   | _,_=>False
  | _,_=>False
 | _,_,_,_=>False
def JT(tm:LV)(h:Hp):List ResultVar->(LV->Prop)->Prop
 | [],k=>k []
 | .tmp t::rs,k=>JT tm h rs fun vs=>k (tm.getD t undef::vs)
 | .cell a t::rs,k =>
  match tm.getD a undef,size? P t with
  | .pointer p,some n=>mZ P dy t fun v cs=>if cs.length=n then(aN p=true/\h.cellsAt (blk p) (off p) n=some cs)/\JT tm h rs fun vs=>k (v::vs) else False
  | _,_=>False
def oneOf:LV->Value
 | [v]=>v
 | vs=>.tuple vs.toArray
def Lj(shp:Nat->List (Tmp×TI))(fn:Func)(c:Code)(args:LV)(h:Hp)(K:KT):Prop :=
 vC P C pf shp true c (fun e dE h'=>match e with
  | .normal | .ret=>JT P (vM shp) dE h' fn.results.toList fun vs=>K (oneOf vs) h'
  | _=>False) (args++List.replicate (fn.ntmps - args.length) undef) h
end
section
variable {P:Program}
theorem sQ{b:Bool}{X:Prop}(h:CX b X):b=true/\X:=by
 cases b with
 | true=>exact⟨rfl,h⟩
 | false=>exact h.elim
variable {dy:Nat->Option TI}
theorem HZ{t:TI}{f:Value->Prop}(h:lK P dy t f){v:Value}(hs:CG P dy t v=true):f v:=by
 unfold lK at h;unfold CG at hs
 cases hu:P.underlying t with
 | none=>simp[hu]at hs
 | some d =>
  cases d
  case interface =>
   simp only[hu]at h hs;unfold vT at h
   cases E:dy t with
   | none=>simp only[E]at h;exact h v
   | some T =>
    simp only[E]at h hs
    split at hs
    ·rename_i G a
     have:=Nat.eq_of_beq_eq_true hs;subst this;exact h a
    ·simp at hs
  case func =>
   simp only[hu]at h hs;unfold vS at h
   cases E:dy t with
   | none=>simp only[E]at h;exact h v
   | some g =>
    simp only[E]at h hs
    split at hs
    ·rename_i l hb
     simp only[hb]at h;exact h _
    ·rename_i O cs hb
     simp only[hb]at h;have:=Nat.eq_of_beq_eq_true hs;subst this;exact h cs.toList
    ·simp at hs
  all_goals
   simp only[hu]at h hs
   cases v <;> simp at hs
   all_goals first | exact h _ | exact h _ _ _ | (subst hs;exact h _)
theorem qQ:∀{E:List TI} {f:LV->Prop},uI P dy E f->∀{vs:LV},gY P dy E vs=true->f vs
 | [],f,h,vs,hs=>by
  cases vs with
  | nil=>exact h
  | cons v vs=>simp[gY]at hs
 | t::E,f,h,vs,hs=>by
  cases vs with
  | nil=>simp[gY]at hs
  | cons v vs =>
   simp only[gY,Uw]at hs;exact qQ (HZ h hs.1) hs.2
theorem Ki{t:TI}{f:Value->Prop}(h:∀v,f v):vT dy t f:=by
 unfold vT;split <;> intros <;> exact h _
theorem Kh{t:TI}{f:Value->Prop}(h:∀v,f v):vS dy t f:=by
 unfold vS
 split
 ·split <;> intros <;> exact h _
 ·intros;exact h _
theorem AB{t:TI}{f:Value->Prop}(h:∀v,f v):lK P dy t f:=by
 unfold lK
 split <;> first | exact Ki h | exact Kh h | (intros;exact h _)
theorem sT:∀{E:List (TI×Nat)} {f:LV->Prop},(∀vs,f vs)->pI P dy E f
 | [],f,h=>h []
 | (t,0)::E,f,h=>AB fun v=>sT fun vs=>h _
 | (t,n+1)::E,f,h=>by
  unfold pI
  split
  ·intro D;exact sT fun vs=>h _
  ·trivial
theorem Kf{t:TI}{f:Value->Prop}(h:∀v,f v):vR P dy t f:=by
 unfold vR
 split
 ·split
  ·exact sT fun vs=>h _
  ·trivial
 ·exact AB h
 ·trivial
theorem wO:∀{E:List TI} {f:LV->Prop},(∀vs,vs.length=E.length->f vs)->pJ.go P dy E f
 | [],f,h=>h [] rfl
 | t::E,f,h=>by
  unfold pJ.go;exact Kf fun v=>wO fun vs hl=>h (v::vs) (by simp[hl])
theorem Az{l:Nat}{r0:Lp}{k:Exit->Hp->Prop}{K:Exit->LV->Hp->Prop}{tm:LV}{h':Hp}(hr:r0.isReady)(G:∀e h,k e h->K e tm h):∀xs,Gm l r0 k h' xs->vA False l tm K h'
 | [],E=>by
  obtain⟨U,O⟩:=E;obtain⟨st,pd,fn,eC,ps,aa,bd⟩:=r0;obtain⟨V,W⟩:=hr;simp only at V W;subst V;subst W;unfold vA;rw[U];exact G _ _ (O _ rfl)
 | x::xs,E=>by
  rcases E with ⟨U,O⟩ | E
  ·unfold vA;rw[U]
   cases x with
   | none=>exact G _ _ (O _ rfl)
   | some id=>exact G _ _ (O _ rfl)
  ·exact Az hr G xs E
theorem gQ{am:Nat}{h:Hp}{r:Prop}:∀{bF:List Owed},eY P alP am h bF r->r
 | [],E=>E
 | d::bF,E=>by
  unfold eY at E;simp only[Vv]at E
  split at E
  ·exact gQ E
  ·exact gQ E.2
theorem rP{L:List Oper}{fs:List Inf}{K:LV->Hp->Prop}:∀(n i:Nat) {tm:LV} {bF:List Owed} {h:Hp},i+n=L.length->
  xDraw P alP (SCalls P) L fs [] (List.range' i n) tm bF h K->pP P alP (SCalls P) L (L.drop i) tm h K
 | 0,i,tm,bF,h,hn,E=>by
  rw[VV (by omega)];exact E
 | n+1,i,tm,bF,h,hn,E=>by
  have U:i < L.length:=by omega
  rw[WI U];rw[List.range'_succ]at E;simp only[xDraw]at E;simp only[pP,nT];have G:=fun {tm} {bF} {h}=>rP (L:=L) (fs:=fs) (K:=K) n (i+1) (tm:=tm) (bF:=bF) (h:=h) (by omega);have e1:L[i]? = some L[i]:=Uh U;rw[e1]at E;have O:∀{α:Type} {x:Option α} {f g:α->Prop},opt alP.bot x f->(∀a,f a->g a)->opt alP.bot x g:=by
   intro α x f g E V
   cases x with
   | none=>exact E
   | some a=>exact V a E
  cases hf:fs[i]? with
  | none=>simp[hf,alP]at E
  | some f =>
   simp only[hf]at E
   split at E
   ·exact E.elim
   ·rename_i w hw
    simp only[hw,List.getD_nil]at E ⊢
    split at E
    ·exact O E fun v W=>G W
    ·exact O E fun v W=>G W
    ·exact O E fun r hr=>G (gQ hr)
    ·cases w with
     | true=>simp only[if_true]at E ⊢;exact O E fun fa hc=>hc.mono fun v h' hr=>G (gQ hr)
     | false=>simp only[VA,if_false]at E ⊢;exact G (gQ E)
    ·cases w with
     | true =>
      simp only[if_true]at E ⊢;refine O E fun l hl r hr=>?_;obtain⟨x,E,rfl⟩:=Uu.1 hr;exact G (gQ (hl _ (Uu.2 ⟨x,E,rfl⟩)))
     | false=>simp only[VA,if_false]at E ⊢;exact G (gQ E)
    ·exact O E fun r hr=>G hr
theorem yE{L:List Oper}(tm:LV):real L (tm.map fun v=>(([],v):Ch×Value))=tm:=by
 unfold real;rw[List.map_map]
 conv=>rhs;rw[<-List.map_id tm]
 apply WV;intro v _
 rfl
theorem yT{L:List Oper}(tm:LV):FK L (tm.map fun v=>(([],v):Ch×Value)) []:=by
 intro t;unfold SS.at;rw[Uz,VB]
 cases tm[t]? with
 | none=>trivial
 | some v=>trivial
theorem Ay{body:(Exit->LV->Hp->Prop)->LV->Hp->Prop}{kp:List Tmp}{K:Exit->LV->Hp->Prop}{J:LV->Nat->Hp->Prop}
  (hb:∀(vals:LV) (m:Nat) (h:Hp) (k:Exit->LV->Hp->Prop),J vals m h->(∀E dE h',E < m->J (kp.map fun t=>dE.getD t undef) E h'->k .normal dE h')->(∀e dE h',e≠.normal->K e dE h'->k e dE h')->body k vals h) :
  ∀(n:Nat) (vals:LV) (m:Nat) (h:Hp),m < n->J vals m h->pY False body kp K n vals h
 | 0,vals,m,h,hm,U=>absurd hm (Nat.not_lt_zero _)
 | n+1,vals,m,h,hm,U=>by
  unfold pY;refine hb vals m h _ U ?_ ?_
  ·intro E dE h' V G;exact Ay hb n _ E h' (by omega) G
  ·intro e dE h' O W
   cases e with
   | normal=>exact absurd rfl O
   | _=>exact W
theorem fZ(hm:P.follows .mixedOrders=true){pf:FuncId->Bool}{V:Nat->List (Tmp×TI)}:∀(c:Code) {cx:Cx} {top:Bool} (G:top=true->cx.ro=none) {k K:Exit->LV->Hp->Prop} {tm:LV} {h:Hp},(∀e tm h,k e tm h->K e tm h)->vC P (SCalls P) pf V top c k tm h->
  xC P alP (SCalls P) cx (fun i=>(V i).map (·.1)) c K tm h
 | .skip,cx,top,G,k,K,tm,h,O,E=>O _ _ _ E
 | .exit id,cx,top,G,k,K,tm,h,O,E=>O _ _ _ E
 | .ret,cx,top,G,k,K,tm,h,O,E=>O _ _ _ E
 | .label l,cx,top,G,k,K,tm,h,O,E=>O _ _ _ E
 | .region id ops false,cx,top,G,k,K,tm,h,O,E=>by
  have:=sE _ (yT tm) (bF:=[]) (by simp) E;rw[yE,List.range_eq_range']at this;have h2:=rP ops.size 0 (by simp) this;have mono:∀{rest:List Oper} {tm:LV} {h:Hp} {K K':LV->Hp->Prop},(∀tm h,K tm h->K' tm h)->pP P alP (SCalls P) ops.toList rest tm h K->pP P alP (SCalls P) ops.toList rest tm h K':=by
   intro rest
   induction rest with
   | nil=>intro tm h K K' O E;exact O _ _ E
   | cons o rest ih=>intro tm h K K' O E;simp only[pP]at E ⊢;exact sG E fun v h'=>ih O
  exact mono (fun tm h=>O _ _ _) (by simpa using h2)
 | .region id ops true,cx,top,G,k,K,tm,h,O,E=>by
  simp only[vC]at E
  split at E
  ·rename_i r ho hp
   have E:mQ P (vM V) (SCalls P) pf ops.toList (infos P ops.toList) r.1 (oT (infos P ops.toList) ops.toList.length (List.range ops.toList.length) 0) [] [] (tm.map fun v=>([],v)) r.2 fun tm h=>k .normal tm h:=by
    split at E
    ·exact E
    ·exact E _ rfl
   have:=sE _ (yT tm) (bF:=[]) (by simp) E;rw[yE]at this;simp only[xC,jZ];rw[if_pos ho,hp];exact sC (fun tm h=>O _ _ _) this
  ·exact E.elim
 | .seq x y,cx,top,G,k,K,tm,h,O,E=>by
  simp only[vC]at E
  split at E
  ·rename_i hs
   refine fZ hm x G ?_ E;intro e tm h he
   cases e with
   | normal =>
    simp only[hs,List.map_nil,BG];exact fZ hm y G O he
   | _=>exact O _ _ _ he
  ·rename_i s ss hs
   obtain⟨J,E,hj⟩:=E;refine fZ hm x G ?_ E;intro e dE h' he
   cases e with
   | normal =>
    obtain⟨ae,hJ⟩:=sQ he;simp only[hs,VO,BG];exact fZ hm y G O (qQ hj ae _ hJ)
   | exit i=>exact O _ _ _ he
   | goto l=>exact O _ _ _ he
   | ret=>exact O _ _ _ he
   | panic x=>exact O _ _ _ he
   | outgrown=>exact O _ _ _ he
 | .cond c x y,cx,top,G,k,K,tm,h,O,E=>by
  simp only[vC]at E;simp only[xC]
  split at E
  ·rename_i t he
   rw[he];simp only
   split at E
   ·rename_i ht;rw[if_pos ht];exact fZ hm x G O E
   ·rename_i ht;rw[if_neg ht];exact fZ hm y G O E
  ·exact E.elim
 | .block id c,cx,top,G,k,K,tm,h,O,E=>by
  refine fZ hm c G ?_ E;intro e tm h he
  cases e with
  | exit i =>
   simp only at he ⊢
   split at he
   ·rename_i hi;rw[if_pos hi];exact O _ _ _ he
   ·rename_i hi;rw[if_neg hi];exact O _ _ _ he
  | _=>exact O _ _ _ he
 | .loop c,cx,top,G,k,K,tm,h,O,E=>by
  simp only[vC]at E;simp only[xC]
  split at E
  ·exact E.elim
  rename_i af
  rw[if_neg (by rw[af];simp)];obtain⟨I,h0,hb⟩:=E;obtain⟨h0,m,hi⟩:=sQ h0;refine⟨m+1,?_⟩;refine Ay (J:=fun vals m h=>gY P (vM V) ((V ((aX c).getD 0)).map (·.2)) vals=true/\I vals m h) ?_ (m+1) _ m h (Nat.lt_succ_self m) ⟨h0,hi⟩;intro vals m h k' ⟨hs,hj⟩ hn U;refine fZ hm c G ?_ (qQ hb hs m h hj);intro e dE h' he
  cases e with
  | normal =>
   obtain⟨ag,m',ah,ai⟩:=sQ he;exact hn m' dE h' ah ⟨ag,ai⟩
  | exit i=>exact U _ _ _ (by simp) (O _ _ _ he)
  | goto l=>exact U _ _ _ (by simp) (O _ _ _ he)
  | ret=>exact U _ _ _ (by simp) (O _ _ _ he)
  | panic x=>exact U _ _ _ (by simp) (O _ _ _ he)
  | outgrown=>exact U _ _ _ (by simp) (O _ _ _ he)
 | .rangeFunc g ps ac body,cx,top,G,k,K,tm,h,O,E=>by
  simp only[vC]at E
  split at E
  ·rename_i f first captured he
   split at E
   ·rename_i hf hlen
    simp only[xC];have aj:cx.ok h=true:=by unfold Cx.ok;rw[G rfl]
    rw[if_pos aj,he];simp only;rw[if_pos (of_decide_eq_true hf)];refine(E ⟨.ready,none,cx.me,tm,ps.toList,ac,body⟩ _ ⟨rfl,rfl⟩ rfl (wO fun vs ak h1 K1 al W=>?_)).mono fun v h' hv=>Az ⟨rfl,rfl⟩ (fun e h he=>O _ _ _ he) _ hv;refine pO hm (gX:=fun _ i=>(V i).map (·.1)) ?_;unfold sH;rw[al];simp only;rw[if_pos (by
     have:=Nat.eq_of_beq_eq_true hlen;simp only[VP]at ak;simp only[VE]
     omega)]
    refine fZ hm ac (by simp) ?_ W;intro e ao h2 ad
    cases e with
    | normal =>
     obtain⟨an,hb⟩:=ad;simp only;rw[an];simp only[if_true];refine fZ hm body (by simp) ?_ (hb _ rfl);intro e ap h3 aa;unfold KS
     cases e with
     | normal=>obtain⟨q1,q2⟩:=aa;rw[q1];exact q2 _ rfl
     | ret=>obtain⟨q1,q2⟩:=aa;rw[q1];exact q2 _ rfl
     | exit id=>obtain⟨q1,q2⟩:=aa;rw[q1];exact q2 _ rfl
     | _=>exact aa.elim
    | _=>exact ad.elim
   ·exact E.elim
  ·exact E.elim
 | .scope c,cx,top,G,k,K,tm,h,O,E=>by
  refine fZ hm c G ?_ E;intro e tm h he
  cases e with
  | goto l=>exact he.elim
  | _=>exact O _ _ _ he
 | .goto l,cx,top,G,k,K,tm,h,O,E=>E.elim
 | .refuse s,cx,top,G,k,K,tm,h,O,E=>E.elim
theorem xW{tm:LV}{h:Hp}:∀(rs:List ResultVar) {k:LV->Prop},JT P dy tm h rs k->∃vs,rs.mapM (Js P tm h)=some vs/\k vs
 | [],k,E=>⟨[],rfl,E⟩
 | .tmp t::rs,k,E=>by
  obtain⟨vs,G,O⟩:=xW rs E;exact⟨_::vs,by simp[List.mapM_cons,Js,G],O⟩
 | .cell a t::rs,k,E=>by
  unfold JT at E
  split at E
  ·rename_i p n he hs
   obtain⟨v,cs,E,W⟩:=gE E
   split at E
   ·rename_i hl
    obtain⟨⟨hp,V⟩,E⟩:=E;obtain⟨vs,G,O⟩:=xW rs E;refine⟨v::vs,?_,O⟩;have:nB P t (tm.getD a undef) h=some v:=by
     unfold nB;rw[he,jQ hp];rcases W with ⟨U,rfl⟩ | ⟨U,rfl⟩
     ·simp[U,hs,V]
     ·simp at hl;subst hl;simp[U,hs,V]
    rw[List.mapM_cons];simp only[Js];rw[this,G]
    rfl
   ·exact E.elim
  ·exact E.elim
theorem FH(hm:P.follows .mixedOrders=true){pf:FuncId->Bool}{f:FuncId}{fn:Func}{c:Code}{E:Nat->List (Tmp×TI)}{args:LV}{h:Hp}{K:KT}
  (O:P.funcs[f]? = some fn) (hb:fn.body=some c) (U:jG fn=true) (V:Lj P (SCalls P) pf E fn c args h K):SCalls P f args h K:=by
 refine Ba hm (gX:=fun i=>(E i).map (·.1)) O hb U ?_;refine fZ hm c (fun _=>rfl) ?_ V;intro e tm h he;have fin:JT P (vM E) tm h fn.results.toList (fun vs=>K (oneOf vs) h)->opt False (jP P fn tm h) fun v=>K v h:=by
  intro W;obtain⟨vs,h1,G⟩:=xW _ W;rw[tF,h1]
  match vs,G with
  | [],G=>exact G
  | [v],G=>exact G
  | v::w::vs,G=>exact G
 cases e <;> first | exact fin he | exact he
end
abbrev pA(b o:Nat):Prop:=aN (some (Addr.mk b o none))=true
abbrev rD(h:Hp)(b o n:Nat)(v:LV):Prop:=aN (some (Addr.mk b o none))=true/\h.cellsAt b o n=some v
theorem fF{α:Type}{p q:α->Prop}:∀y,p y->q y->q y:=fun _ _ h=>h
abbrev sA(b o:Nat):Prop:=(some (Addr.mk b o none)).isSome=true
abbrev vX(C:FuncId->LV->Hp->KT->Prop)(P:Program)(pf:FuncId->Bool)(shp:Nat->List (Tmp×TI))(fn:Func)(args:LV)(h:Hp)(K:KT):Prop:=Lj P C pf shp fn (fn.body.getD .skip) args h K
abbrev aP:Value:=Value.int IntKind.u8 (Int.ofNat 0)
abbrev UQ:Value:=Value.int IntKind.u16 (Int.ofNat 0)
abbrev aW:Value:=Value.int IntKind.u32 (Int.ofNat 0)
abbrev mR:Value:=Value.int IntKind.u64 (Int.ofNat 0)
abbrev lV:Value:=Value.int IntKind.i64 (Int.ofNat 0)
abbrev nS:Value:=Value.slice none 0 0
abbrev sB(b:Nat):OA:=some ⟨b,0,none⟩
abbrev CT:=FuncId->LV->Hp->KT->Prop
abbrev IT:=LV->Nat->Hp->Prop
abbrev SH:=Nat->List (Tmp×TI)
abbrev eE:Nat->List (Tmp×TI):=fun i=>[]
abbrev fH:LV:=[aP,aP,aP,aP,aP,aP,aP,aP,aP,aP,aP,aP,aP,aP,aP,aP,aP,aP,aP,aP,aP,aP,aP,aP,aP,aP,aP,aP,aP,aP,aP,aP]
abbrev Bc:LV:=[aW,aP,aP,aP,aP,aP,aP,aP,aP,aP,aP,aP,aP,aP,aP,aP,aP,aP,aP,aP,aP,aP,aP,aP,aP,aP,aP,aP,aP,aP,aP,aP,aP]
abbrev Tl:LV:=[aW,aP,aP,aP,aP,aP,aP,aP,aP,aP,aP,aP,aP,aP,aP,aP,aP,aP,aP,aP,aP,aP,aP,aP,aP,aP,aP,aP,aP,aP,aP,aP,aP,Value.int IntKind.u64 (Int.ofNat 0),Value.int IntKind.u64 (Int.ofNat 0)]
abbrev Qm:LV:=[aW,aW,aW,aW,aW,aW,aW,aW,aW,aW,aW,aW,aW,aW,aW,aW,aW,aW,aW,aW,aW,aW,aW,aW,aW,aW,aW,aW,aW,aW,aW,aW,aW,aW,aW,aW,aW,aW,aW,aW,aW,aW,aW,aW,aW,aW,aW,aW,aW,aW,aW,aW,aW,aW,aW,aW,aW,aW,aW,aW,aW,aW,aW,aW]
end Go.Cn
