/- Joined: CnA. -/
import Derived.Calls
import Derived.Orders
set_option linter.unusedVariables false
namespace Go.Cn
abbrev Uf:=@Nat.le_refl
abbrev Ug:=@List.length_append
abbrev Uh:=@List.getElem?_eq_getElem
abbrev Ui:=@Int.natCast_nonneg
abbrev Uj:=@List.take_of_length_le
abbrev Uk:=@Nat.zero_le
abbrev Ul:=@Option.bind_some
abbrev Um:=@Option.some.injEq
abbrev Un:=@Prod.mk.injEq
abbrev Uo:=@Int.toNat_natCast
abbrev Up:=@Nat.mod_eq_of_lt
abbrev Uq:=@List.length_take
abbrev Ur:=@List.cons.injEq
abbrev Us:=@List.getElem?_eq_some_iff
abbrev Ut:=@List.append_assoc
abbrev Uu:=@List.mem_map
abbrev Uv:=@Option.map_some
abbrev Uw:=@Bool.and_eq_true
abbrev Ux:=@List.length_cons
abbrev Uy:=@List.mem_of_getElem?
abbrev Uz:=@List.getD_eq_getElem?_getD
abbrev VA:=@Bool.false_eq_true
abbrev VB:=@List.getElem?_map
abbrev VC:=@List.drop_zero
abbrev VD:=@Option.map_eq_some_iff
abbrev VE:=@Array.length_toList
abbrev VF:=@List.mem_append
abbrev VG:=@List.take_add_one
abbrev VH:=@List.nil_append
abbrev VI:=@List.getElem?_eq_none
abbrev VJ:=@List.append_nil
abbrev VK:=@List.all_eq_true
abbrev VL:=@Bool.not_eq_true'
abbrev VM:=@List.mem_cons
abbrev VN:=@List.getElem?_append_right
abbrev VO:=@List.map_cons
abbrev VP:=@List.length_map
abbrev VQ:=@List.getElem?_append_left
abbrev VR:=@Array.getElem?_toList
abbrev VS:=@List.eq_nil_of_length_eq_zero
abbrev VT:=@Array.getElem?_eq_some_iff
abbrev VU:=@Nat.mul_le_mul_right
abbrev VV:=@List.drop_eq_nil_of_le
abbrev VW:=@Array.getD_eq_getD_getElem?
abbrev VX:=@List.flatMap_append
abbrev VY:=@List.map_append
abbrev VZ:=@List.getElem?_take
abbrev Va:=@Bool.eq_iff_iff
abbrev Vb:=@Nat.add_mul
abbrev Vc:=@Nat.min_eq_left
abbrev Vd:=@List.getElem?_cons_succ
abbrev Ve:=@Nat.mul_one
abbrev Vf:=@List.length_drop
abbrev Vg:=@List.flatMap_cons
abbrev Vh:=@Bool.or_eq_true
abbrev Vi:=@List.ext_getElem?
abbrev Vj:=@Nat.lt_of_lt_of_le
abbrev Vk:=@Nat.add_zero
abbrev Vl:=@List.length_nil
abbrev Vm:=@Array.mem_toList_iff
abbrev Vn:=@List.take_zero
abbrev Vo:=@Nat.le_of_ble_eq_true
abbrev Vp:=@List.getElem?_drop
abbrev Vq:=@Array.getElem?_eq_getElem
abbrev Vr:=@Bool.not_eq_true
abbrev Vs:=@Array.getElem?_push
abbrev Vt:=@List.all_append
abbrev Vu:=@Nat.sub_self
abbrev Vv:=@List.foldr_cons
abbrev Vw:=@Nat.add_assoc
abbrev Vx:=@List.foldl_cons
abbrev Vy:=@List.drop_append_of_le_length
abbrev Vz:=@List.take_append_of_le_length
abbrev WA:=@List.take_append_drop
abbrev WB:=@Nat.mul_le_mul
abbrev WC:=@List.mem_singleton
abbrev WD:=@List.getElem?_of_mem
abbrev WE:=@Nat.le_of_not_lt
abbrev WG:=@List.mem_filter
abbrev WH:=@Int.le_refl
abbrev WI:=@List.drop_eq_getElem_cons
abbrev WJ:=@List.drop_drop
abbrev WK:=@Nat.shiftRight_eq_div_pow
abbrev WL:=@List.mem_cons_of_mem
abbrev WM:=@List.mem_of_mem_take
abbrev WN:=@Nat.mul_comm
abbrev WO:=@Nat.lt_of_le_of_lt
abbrev WQ:=@List.length_replicate
abbrev WR:=@List.zipIdx_cons
abbrev WT:=@Option.bind_eq_some_iff
abbrev WU:=@Bool.not_eq_false
abbrev WV:=@List.map_congr_left
abbrev WW:=@List.mem_append_left
abbrev WX:=@List.mem_flatMap
abbrev WY:=@Nat.mul_assoc
abbrev WZ:=@List.singleton_append
abbrev Wa:=@List.take_succ_cons
abbrev Wb:=@List.set_append_right
abbrev Wc:=@Array.mk.injEq
abbrev Wd:=@List.length_singleton
abbrev We:=@Array.getElem?_setIfInBounds_self_of_lt
abbrev Wg:=@Array.getElem?_setIfInBounds_ne
abbrev Wh:=@Array.getElem?_map
abbrev Wi:=@List.take_length
abbrev Wj:=@List.filter_cons
abbrev Wk:=@List.find?_cons
abbrev Wl:=@List.mem_iff_getElem?
abbrev Wm:=@List.getElem?_replicate
abbrev Wn:=@UInt8.toNat_inj
abbrev Wo:=@Int.tdiv_eq_ediv_of_nonneg
abbrev Wp:=@UInt8.toNat_ofNat'
abbrev Wq:=@List.getElem?_set_ne
abbrev Wr:=@List.mem_cons_self
abbrev Ws:=@List.mem_of_mem_drop
abbrev Wt:=@List.drop_succ_cons
abbrev Wu:=@List.getElem?_zip_eq_some
abbrev LV:=List Value
abbrev OV:=Option Value
abbrev AV:=Array Value
abbrev LN:=List Nat
abbrev NP:=Nat->Prop
abbrev TI:=TypeId
abbrev OA:=Option Addr
abbrev LU:=List UInt8
abbrev ON:=Option Nat
abbrev BA:=ByteArray
inductive Tr (α:Type) where
 | leaf
 | node (o:Option α) (l r:Tr α)
def Tr.get{α:Type}:Tr α->Nat->Option α
 | .leaf,_=>none
 | .node o l r,n=>if n=0 then o else if n % 2=1 then l.get (n / 2) else r.get (n / 2 - 1)
def Tr.set{α:Type}(a:α):(fuel n:Nat)->Tr α->Tr α
 | 0,_,t=>t
 | f+1,n,.leaf =>
  if n=0 then .node (some a) .leaf .leaf
  else if n % 2=1 then .node none (Tr.set a f (n / 2) .leaf) .leaf
  else .node none .leaf (Tr.set a f (n / 2 - 1) .leaf)
 | f+1,n,.node o l r =>
  if n=0 then .node (some a) l r
  else if n % 2=1 then .node o (Tr.set a f (n / 2) l) r
  else .node o l (Tr.set a f (n / 2 - 1) r)
structure Lp where
 state:LoopState
 pending:Option Code
 fn:FuncId
 tm:LV
 params:List Tmp
 assign:Code
 body:Code
inductive Ob where
  | cells (cs:LV) (elem:TI) (grp:ON)
 | map (es:List MapEntry) (clock:Nat)
 | iter (m:ON) (since:Nat) (seen:LN) (Bu:Nat)
 | loop (l:Lp)
def Ob.isOth:Ob->Bool
 | .cells _ _ _=>false
 | _=>true
structure Hp where
 obs:Tr Ob
 gs:Tr LN
 next:Nat
abbrev KT:=Value->Hp->Prop
def Hp.ob(h:Hp)(b:Nat):Option Ob:=h.obs.get b
def Hp.setOb(h:Hp)(b:Nat)(o:Ob):Hp:={h with obs:=Tr.set o (b+1) b h.obs}
def Hp.setGs(h:Hp)(g:Nat)(l:LN):Hp:={h with gs:=Tr.set l (g+1) g h.gs}
def Hp.live(h:Hp)(b:Nat):ON->Bool
 | none=>true
 | some g=>match h.gs.get g with
  | none=>b==g
  | some l=>l.contains b
def Hp.cellsAt(h:Hp)(b o n:Nat):Option LV :=
 match h.ob b with
 | some (.cells cs _ g)=>if h.live b g&&decide (o+n<=cs.length) then some ((cs.drop o).take n) else none
 | _=>none
def Hp.only(h:Hp)(b g:Nat):Hp :=
 match h.gs.get g with
 | none=>h
 | some _=>h.setGs g [b]
def splice(cs:LV)(o:Nat)(vs:LV):LV:=cs.take o++vs++cs.drop (o+vs.length)
def isCell:Value->Bool
 | .agg _ | .tuple _=>false
 | _=>true
def Hp.store(h:Hp)(b o:Nat)(vs:LV):Option Hp :=
 match h.ob b with
 | some (.cells cs e (some g)) =>
  if h.live b (some g)&&decide (o+vs.length<=cs.length)&&vs.all isCell then some ((h.only b g).setOb b (.cells (splice cs o vs) e (some g))) else none
 | _=>none
def Hp.newOb(h:Hp)(o:Ob):Hp:={h with obs:=Tr.set o (h.next+1) h.next h.obs,next:=h.next+1}
def Hp.alloc(h:Hp)(cs:LV)(e:TI):Hp:={h with obs:=Tr.set (.cells cs e (some h.next)) (h.next+1) h.next h.obs,next:=h.next+1}
def Hp.below(h:Hp)(b g:Nat):LN :=
 match h.gs.get g with
 | none=>[b]
 | some l=>l.dropWhile (· != b)
def Hp.extend(h:Hp)(b o e:Nat)(new:LV):Option Hp :=
 match h.ob b with
 | some (.cells cs t (some g)) =>
  if h.live b (some g)&&decide (o<=e)&&decide (e<=cs.length)&&new.all isCell then
   let h1:Hp:=if e=cs.length then h.setGs g (h.next::h.below b g) else(h.setGs g [h.next,b]).setOb b (.cells (cs.take e) t (some g))
   some {h1 with obs:=Tr.set (.cells ((cs.drop o).take (e - o)++new) t (some g)) (h.next+1) h.next h1.obs,next:=h.next+1}
  else none
 | _=>none
def unk:Value:=.tuple #[.tuple #[]]
def fR:Value->Bool
 | .tuple vs=>vs.size==1
 | _=>false
def plainV:(fuel:Nat)->Value->Bool
 | _,.bool _ | _,.int _ _ | _,.float _ _ | _,.complex _ _ _ | _,.string _ | _,.nilFunc | _,.nilIface | _,.pointer none | _,.map none | _,.slice none 0 0=>true
 | n+1,.agg cs=>cs.toList.all (plainV n)
 | n+1,.tuple cs=>!(cs.size==1)&&cs.toList.all (plainV n)
 | n+1,.iface _ v=>plainV n v
 | _,_=>false
def ev(tm:LV):Operand->Value
 | .tmp t=>tm.getD t undef
 | .const v=>if plainV 100 v then v else unk
 | .global _=>unk
 | .func f=>.func (.func f) #[] #[]
def put(tm:LV)(dst:Option Tmp)(v:Value):LV :=
 match dst with
 | some d=>tm.set d v
 | none=>tm
def addrOf:Value->Option (Nat×Nat)
 | .pointer (some ⟨b,o,none⟩)=>some (b,o)
 | _=>none
def ptr(b o:Nat):Value:=.pointer (some ⟨b,o,none⟩)
section
variable (P:Program)
def size?(t:TI):ON:=(P.info? t).map (·.size)
def zero?(t:TI):OV:=(P.info? t).bind (·.zero)
def agg?(t:TI):Option Bool :=
 match P.underlying t with
 | some (.struct _) | some (.array _ _)=>some true
 | some _=>some false
 | none=>none
def part?(t:TI)(cs:AV)(off:Nat):OV :=
 match agg? P t with
 | some true=>(size? P t).map fun n=>.agg (cs.extract off (off+n))
 | some false=>cs[off]?
 | none=>none
def pN:(depth:Nat)->TI->Value->Value->Option Bool
 | 0,_,_,_=>none
 | d+1,t,x,y =>
  match P.underlying t,x,y with
  | some .bool,.bool a,.bool b=>some (a==b)
  | some (.int _),.int k a,.int k' b=>if k=k' then some (a==b) else none
  | some .string,.string a,.string b=>some (a==b)
  | some (.pointer _),.pointer none,.pointer b=>some b.isNone
  | some (.pointer _),.pointer (some _),.pointer none=>some false
  | some (.interface _),.nilIface,.nilIface=>some true
  | some (.interface _),.nilIface,.iface _ _=>some false
  | some (.interface _),.iface _ _,.nilIface=>some false
  | some (.struct fs),.agg xs,.agg ys =>
   if P.stoodInHeld t then none else
   fs.toList.foldr (fun f acc =>
    if f.name≠ "_" then
     match part? P f.type xs f.offset,part? P f.type ys f.offset with
     | some a,some b=>match pN d f.type a b with
      | some true=>acc
      | some false=>some false
      | none=>none
     | _,_=>none
    else acc) (some true)
  | some (.array len elem),.agg xs,.agg ys =>
   match size? P elem with
   | some n=>(List.range len).foldr (fun i acc =>
     match part? P elem xs (i * n),part? P elem ys (i * n) with
     | some a,some b=>match pN d elem a b with
      | some true=>acc
      | some false=>some false
      | none=>none
     | _,_=>none) (some true)
   | none=>none
  | some (.slice _),.slice none _ _,.slice b _ _=>some b.isNone
  | some (.slice _),.slice (some _) _ _,.slice none _ _=>some false
  | some (.map _ _),.map none,.map b=>some b.isNone
  | some (.map _ _),.map (some _),.map none=>some false
  | some (.func _ _ _),.nilFunc,.nilFunc=>some true
  | some (.func _ _ _),.nilFunc,.func _ _ _=>some false
  | some (.func _ _ _),.func _ _ _,.nilFunc=>some false
  | some (.pointer el),.pointer (some a),.pointer (some b)=>if a.block=b.block then(match size? P el with
   | some 0=>none
   | some (_+1)=>some (a.off==b.off)
   | none=>none) else none
  | _,_,_=>none
def Cd(t:TI):Bool:=!P.eqGuardType P.depth t
def xD(t:TI):Bool:=!P.stoodInHeld t
def fV(t:TI)(x y:Operand)(a b:Value):Bool :=
 match a,b with
 | .nilIface,.nilIface=>(match x with | .const _=>true | _=>false)||(match y with | .const _=>true | _=>false)
 | .agg _,.agg _=>Cd P t
 | _,_=>true
def shift(op:BinOp)(k:IntKind)(a b:Int):OV :=
 if b < 0 then none else
 match op with
 | .shl=>some (.int k (k.wrap (a * 2 ^ min b.toNat k.bits)))
 | .shr=>some (.int k (a.fdiv (2 ^ min b.toNat k.bits)))
 | _=>none
def BH(op:BinOp)(k:IntKind)(a b:Int):OV :=
 match op with
 | .add=>some (.int k (k.wrap (a+b)))
 | .sub=>some (.int k (k.wrap (a - b)))
 | .mul=>some (.int k (k.wrap (a * b)))
 | .quo=>if b=0 then none else some (.int k (k.wrap (a.tdiv b)))
 | .rem=>if b=0 then none else some (.int k (a.tmod b))
 | .and=>some (.int k (k.wrap (BitVec.ofInt k.bits a &&& BitVec.ofInt k.bits b).toNat))
 | .or=>some (.int k (k.wrap (BitVec.ofInt k.bits a ||| BitVec.ofInt k.bits b).toNat))
 | .xor=>some (.int k (k.wrap (BitVec.ofInt k.bits a ^^^ BitVec.ofInt k.bits b).toNat))
 | .andNot=>some (.int k (k.wrap (BitVec.ofInt k.bits a &&& ~~~BitVec.ofInt k.bits b).toNat))
 | .eql=>some (.bool (a==b))
 | .neq=>some (.bool (a != b))
 | .lss=>some (.bool (a < b))
 | .leq=>some (.bool (a<=b))
 | .gtr=>some (.bool (a > b))
 | .geq=>some (.bool (a>=b))
 | _=>none
def Aj(op:BinOp)(x y:BA):OV :=
 match op with
 | .add=>if((x.size+y.size:Nat):Int) > IntKind.i64.max then none else some (.string (x++y))
 | .eql=>some (.bool (x.toList==y.toList))
 | .neq=>some (.bool !(x.toList==y.toList))
 | .lss=>some (.bool (Op.bytesLess x.toList y.toList))
 | .leq=>some (.bool (Op.bytesLess x.toList y.toList||x.toList==y.toList))
 | .gtr=>some (.bool !(Op.bytesLess x.toList y.toList||x.toList==y.toList))
 | .geq=>some (.bool !(Op.bytesLess x.toList y.toList))
 | _=>none
def wW(op:BinOp)(t:TI)(x y:Operand)(a b:Value):OV :=
 match a,b with
 | .int k m,.int k' n =>
  match op with
  | .shl | .shr=>shift op k m n
  | _=>if k=k' then BH op k m n else none
 | .string s,.string u=>Aj op s u
 | .float _ _,_ | .complex _ _ _,_=>none
 | a,b =>
  match op with
  | .eql=>if fV P t x y a b then(pN P Op.maxDepth t a b).map .bool else none
  | .neq=>if fV P t x y a b then(pN P Op.maxDepth t a b).map fun r=>.bool !r else none
  | _=>none
def Tk(op:UnOp)(x:Value):OV :=
 match op,x with
 | .neg,.int k n=>some (.int k (k.wrap (0 - n)))
 | .xor,.int k n=>some (.int k (k.wrap (BitVec.ofInt k.bits (if k.signed then -1 else k.max) ^^^ BitVec.ofInt k.bits n).toNat))
 | .not,.bool b=>some (.bool !b)
 | _,_=>none
def bound(x:OV)(dflt most:Nat):ON :=
 match x with
 | none=>some dflt
 | some (.int _ i)=>if 0<=i/\i<=(most:Int) then some i.toNat else none
 | some _=>none
def bounds(len cap:Nat)(lo hi mx:OV):Option (Nat×Nat×Nat) :=
 match bound mx cap cap with
 | none=>none
 | some m =>
  match hi,mx with
  | none,some _=>none
  | _,_ =>
   match bound hi len (if mx.isSome then m else cap) with
   | none=>none
   | some h=>match bound lo 0 h with
    | none=>none
    | some l=>some (l,h,m)
def kY(t:TI)(x:Value)(lo hi mx:OV):OV :=
 match P.underlying t,x with
 | some .string,.string s =>
  match mx with
  | some _=>none
  | none=>match bounds s.size s.size lo hi none with
   | some (l,h,_)=>some (.string (s.extract l h))
   | none=>none
 | some (.slice elem),.slice none len cap =>
  match bounds len cap lo hi mx,size? P elem with
  | some (l,h,m),some _=>some (.slice none (h - l) (m - l))
  | _,_=>none
 | some (.slice elem),.slice (some ⟨b,o,sp⟩) len cap =>
  match bounds len cap lo hi mx,size? P elem with
  | some (l,h,m),some n =>
   if mx.isSome then some (.slice (some ⟨b,o+l * n,none⟩) (h - l) (m - l))
   else if sp=none\/sp=some n then some (.slice (some ⟨b,o+l * n,sp⟩) (h - l) (m - l)) else none
  | _,_=>none
 | some (.array len elem),.pointer (some ⟨b,o,none⟩) =>
  match bounds len len lo hi mx,size? P elem with
  | some (l,h,m),some n=>some (.slice (some ⟨b,o+l * n,none⟩) (h - l) (m - l))
  | _,_=>none
 | _,_=>none
def pC(s:TI)(x:Value)(f:Nat):OV :=
 match P.underlying s,x with
 | some (.struct fs),.pointer (some ⟨b,o,none⟩) =>
  match fs[f]? with
  | some fd=>match size? P fd.type with
   | some n=>if n=0 then none else some (ptr b (o+fd.offset))
   | none=>none
  | none=>none
 | _,_=>none
def pB(t:TI)(x ix:Value):OV :=
 match ix with
 | .int _ i =>
  match P.underlying t,x with
  | some (.array len elem),.pointer (some ⟨b,o,none⟩) | some (.slice elem),.slice (some ⟨b,o,_⟩) len _ =>
   if 0<=i/\i < (len:Int) then(size? P elem).map fun n=>ptr b (o+i.toNat * n) else none
  | _,_=>none
 | _=>none
def HB(t:TI)(x:Value)(f:Nat):OV :=
 match P.underlying t,x with
 | some (.struct fs),.agg cs =>
  match fs[f]? with
  | some fd=>part? P fd.type cs fd.offset
  | none=>none
 | _,_=>none
def Cj(t:TI)(x ix:Value):OV :=
 match ix with
 | .int _ i =>
  match P.underlying t,x with
  | some (.array len elem),.agg cs =>
   if 0<=i/\i < (len:Int) then match size? P elem with
    | some n=>part? P elem cs (i.toNat * n)
    | none=>none
   else none
  | some .string,.string s=>if 0<=i then(s[i.toNat]?).map fun b=>.int .u8 b.toNat else none
  | _,_=>none
 | _=>none
def tY(place:Nat->Option (Nat×Nat))(cells:LV):List (Nat×Value)->Option LV
 | []=>some cells
 | (i,v)::rest =>
  match place i with
  | none=>none
  | some (off,size) =>
   if fR v||v.cells.size≠size||off+v.cells.size > cells.length then none
   else tY place (splice cells off v.cells.toList) rest
def HG(t:TI)(parts:List (Nat×Value)):OV :=
 match zero? P t with
 | none=>none
 | some z =>
  if !plainV 100 z then none else
  match P.underlying t with
  | some (.struct fs) =>
   match fs.toList.mapM fun f=>(size? P f.type).map fun n=>(f.offset,n) with
   | some places=>(tY (fun i=>places[i]?) z.cells.toList parts).map fun l=>.agg l.toArray
   | none=>none
  | some (.array _ elem) =>
   match size? P elem with
   | some n=>(tY (fun i=>some (i * n,n)) z.cells.toList parts).map fun l=>.agg l.toArray
   | none=>none
  | _=>none
def Gy(t:TI)(x:Value):OV :=
 match P.underlying t,x with
 | some .string,.string s=>some (.int .i64 s.size)
 | some (.array n _),_=>some (.int .i64 n)
 | some (.slice _),.slice _ n _=>some (.int .i64 n)
 | some (.map _ _),.map none=>some (.int .i64 0)
 | some (.pointer arr),_=>match P.underlying arr with
  | some (.array n _)=>some (.int .i64 n)
  | _=>none
 | _,_=>none
def Pg(t:TI)(x:Value):OV :=
 match P.underlying t,x with
 | some (.slice _),.slice none 0 0=>some (.int .i64 (.ofNat 0))
 | some (.slice _),.slice (some ⟨_,_,none⟩) _ c=>some (.int .i64 (.ofNat c))
 | _,_=>none
def NU(x y:Value):OV :=
 match x,y with
 | .int k a,.int k' b=>if k=k' then some (.int k (if a>=b then a else b)) else none
 | _,_=>none
def NS(x y:Value):OV :=
 match x,y with
 | .int k a,.int k' b=>if k=k' then some (.int k (if a<=b then a else b)) else none
 | _,_=>none
def Eu(src dst:TI)(x:Value):OV :=
 match P.underlying src,P.underlying dst,x with
 | some _,some (.int k),.int _ n=>some (.int k (k.wrap n))
 | some _,some .string,.string s=>some (.string s)
 | _,_,_=>none
def isYield:Fn->Bool
 | .yield _=>true
 | _=>false
def pop(tm:LV)(op:Op):OV :=
 match op with
 | .move x | .assign x=>some (ev tm x)
 | .pick c a b=>match ev tm c with
  | .bool true=>some (ev tm a)
  | .bool false=>some (ev tm b)
  | _=>none
 | .nilCheck x=>match ev tm x with
  | .pointer (some a)=>some (.pointer (some a))
  | .iface t v=>some (.iface t v)
  | .func (.func f) a b=>some (.func (.func f) a b)
  | _=>none
 | .binOp o t x y _=>wW P o t x y (ev tm x) (ev tm y)
 | .unOp o _ x=>Tk o (ev tm x)
 | .convert s d x=>Eu P s d (ev tm x)
 | .makeInterface t x=>match P.underlying t with
  | some (.interface _) | none=>none
  | some _=>some (.iface t (ev tm x))
 | .makeFunc fn first captured=>if isYield fn then none else some (.func fn (first.map (ev tm)) (captured.map (ev tm)))
 | .slice t x lo hi mx=>kY P t (ev tm x) (lo.map (ev tm)) (hi.map (ev tm)) (mx.map (ev tm))
 | .fieldAddr s x f=>pC P s (ev tm x) f
 | .field t x f=>HB P t (ev tm x) f
 | .indexAddr t x ix=>pB P t (ev tm x) (ev tm ix)
 | .index t x ix=>Cj P t (ev tm x) (ev tm ix)
 | .build t parts=>HG P t (parts.toList.map fun(i,x)=>(i,ev tm x))
 | .extract x i=>match ev tm x with
  | .tuple vs=>if vs.size=1 then(match vs[0]? with
   | some (Value.bool b)=>if i=0 then some (.bool b) else none
   | _=>none) else vs[i]?
  | _=>none
 | .call {callee:=.builtin .len,args,argTypes} =>
  match argTypes.toList,args.toList with
  | t::_,x::_=>Gy P t (ev tm x)
  | _,_=>none
 | .call {callee:=.builtin .cap,args,argTypes} =>
  match argTypes.toList,args.toList with
  | t::_,x::_=>Pg P t (ev tm x)
  | _,_=>none
 | .call {callee:=.builtin .max,args,..} =>
  match args.toList with
  | [x,y]=>NU (ev tm x) (ev tm y)
  | _=>none
 | .call {callee:=.builtin .min,args,..} =>
  match args.toList with
  | [x,y]=>NS (ev tm x) (ev tm y)
  | _=>none
 | .sliceToArrayPointer arr x =>
  match P.underlying arr,ev tm x with
  | some (.array n _),.slice (some ⟨b,o,_⟩) l _=>if n<=l/\0 < n then some (ptr b o) else none
  | _,_=>none
 | .typeAssert x _ asserted ok =>
  match P.underlying asserted,ev tm x with
  | some (.interface _),_=>none
  | some _,.iface t v=>if t=asserted then some (if ok then .tuple #[v,.bool true] else v) else none
  | _,_=>none
 | _=>none
def bytesOf:LV->Option LU
 | []=>some []
 | .int .u8 n::l=>(bytesOf l).map (UInt8.ofNat n.toNat :: ·)
 | _=>none
def nB(t:TI)(a:Value)(h:Hp):OV :=
 match a with
 | .pointer (some ⟨b,o,none⟩) =>
  match agg? P t,size? P t with
  | some true,some n=>(h.cellsAt b o n).map fun cs=>.agg cs.toArray
  | some false,some _=>match h.cellsAt b o 1 with
   | some [v]=>some v
   | _=>none
  | _,_=>none
 | _=>none
def keyOk(t:TI)(k:Value):Bool :=
 match P.underlying t with
 | some (.int _) | some .string | some .bool | some (.pointer _)=>true
 | some (.array n e)=>match P.underlying e,size? P e,k with
  | some (.int _),some 1,.agg cs=>cs.size==n
  | _,_,_=>false
 | _=>false
def findEq(t:TI)(k:Value):List MapEntry->Nat->Option (Option (Nat×Value))
 | [],_=>some none
 | e::es,i =>
  match pN P Op.maxDepth t k e.key with
  | some true=>some (some (i,e.val))
  | some false=>findEq t k es (i+1)
  | none=>none
def findK(t:TI)(k:Value)(es:List MapEntry):Option (Option (Nat×Value)) :=
 match P.underlying t with
 | some (.array _ _)=>if xD P t&&Cd P t then findEq P t k es 0 else none
 | some (.pointer _)=>findEq P t k es 0
 | some d=>Instr.findNow d k es 0
 | none=>none
def oA(ts:Array TI):Bool :=
 match ts.toList with
 | t::_=>match P.underlying t with
  | some (.map _ _)=>true
  | _=>false
 | _=>false
def mapOf(h:Hp)(m:Value):Option (List MapEntry) :=
 match m with
 | .map none=>some []
 | .map (some b)=>match h.ob b with
  | some (.map es _)=>some es
  | _=>none
 | _=>none
def dY(t:TI)(x ix:Value)(ok:Bool)(h:Hp):OV :=
 match P.underlying t with
 | some (.map kt et) =>
  if !keyOk P kt ix then none else
  match mapOf h x with
  | none=>none
  | some es =>
   match findK P kt ix es with
   | some (some (_,v))=>some (if ok then .tuple #[v,.bool true] else v)
   | some none=>match zero? P et with
    | some z=>if plainV 100 z then some (if ok then .tuple #[z,.bool false] else z) else none
    | none=>none
   | none=>none
 | _=>none
def jV(it:Value)(h:Hp):OV :=
 match it with
 | .pointer (some ⟨b,0,none⟩)=>match h.ob b with
  | some (.iter (some m) _ seen Bu) =>
   match seen.getLast?,h.ob m with
   | some stamp,some (.map es clock) =>
    if clock≠Bu then none else(es.find? fun e=>e.born==stamp).map fun e=>.tuple #[e.key,e.val]
   | _,_=>none
  | _=>none
 | _=>none
def rop(tm:LV)(op:Op)(h:Hp):OV :=
 match op with
 | .load t a=>nB P t (ev tm a) h
 | .lookup t x ix ok=>dY P t (ev tm x) (ev tm ix) ok h
 | .entry it=>jV (ev tm it) h
 | .call {callee:=.builtin .len,args,argTypes} =>
  if oA P argTypes then
   match args.toList with
   | x::_=>(mapOf h (ev tm x)).map fun es=>.int .i64 es.length
   | _=>none
  else none
 | .convert src dst x =>
  match P.underlying src,P.underlying dst,ev tm x with
  | some (.slice e),some .string,.slice none _ _=>match P.underlying e with
   | some (.int .u8)=>some (.string .empty)
   | _=>none
  | some (.slice e),some .string,.slice (some ⟨b,o,_⟩) n _=>match P.underlying e with
   | some (.int .u8)=>match h.cellsAt b o n with
    | some cs=>(bytesOf cs).map fun l=>.string ⟨l.toArray⟩
    | none=>none
   | _=>none
  | _,_,_=>none
 | _=>none
def zeroCells(z:LV)(n:Nat):LV:=(List.replicate n z).flatten
def roomy(need bytes:Nat):Bool:=decide ((2 * need+1024) * bytes<=2 ^ 47)
def dC(size:Nat)(x:Value)(h:Hp):Option (Nat×LV) :=
 match x with
 | .slice none n _=>if n=0 then some (0,[]) else none
 | .slice (some ⟨b,o,_⟩) n _=>if n=0 then some (0,[]) else(h.cellsAt b o (n * size)).map fun cs=>(n,cs)
 | .string s=>if size=1 then some (s.size,s.data.toList.map fun b=>.int .u8 b.toNat) else none
 | _=>none
def JZ:Value->Nat
 | .slice _ l _=>l
 | _=>0
def aQ(t xt:TI)(s x:Value)(h:Hp):Option (Value×Hp) :=
 match P.underlying t with
 | some (.slice elem) =>
  match P.info? elem,P.underlying xt with
  | some i,some (.int _)=>none
  | some i,some _ =>
   match dC i.size x h with
   | none=>none
   | some (n,new) =>
    if n=0 then match s with
     | .slice a l c=>if l<=c then some (.slice a l c,h) else none
     | _=>none
    else if !decide (i.zero.map (fun z=>z.cells.size)=some i.size) || !roomy (JZ s+n) i.bytes||i.size=0||i.bytes=0 then none else
    match s with
    | .slice none 0 0=>some (.slice (some ⟨h.next,0,some i.size⟩) n n,h.alloc new elem)
    | .slice (some ⟨b,o,sp⟩) l c =>
     if l+n<=c then(h.store b (o+l * i.size) new).map fun h'=>(.slice (some ⟨b,o,sp⟩) (l+n) c,h')
     else match sp with
      | none=>if l=0 then some (.slice (some ⟨h.next,0,some i.size⟩) n n,h.alloc new elem) else
       (h.cellsAt b o (l * i.size)).map fun old=>(.slice (some ⟨h.next,0,some i.size⟩) (l+n) (l+n),h.alloc (old++new) elem)
      | some k=>if k=i.size then(h.extend b o (o+l * i.size) new).map fun h'=>(.slice (some ⟨h.next,0,some i.size⟩) (l+n) (l+n),h') else none
    | _=>none
  | _,_=>none
 | _=>none
def qO(t:TI)(d x:Value)(h:Hp):Option (Value×Hp) :=
 match P.underlying t with
 | some (.slice elem) =>
  match size? P elem,d with
  | some size,.slice a l _ =>
   match dC size x h with
   | none=>none
   | some (n,new) =>
    let m:=min n l
    if m=0 then some (.int .i64 0,h) else
    match a with
    | some ⟨b,o,_⟩=>(h.store b o (new.take (m * size))).map fun h'=>(.int .i64 m,h')
    | _=>none
  | _,_=>none
 | _=>none
def Cm(t:TI)(x:Value)(h:Hp):Option (Value×Hp) :=
 match P.underlying t,x with
 | some (.slice _),.slice none _ _=>some (.tuple #[],h)
 | some (.slice elem),.slice (some ⟨b,o,_⟩) n _ =>
  if n=0 then some (.tuple #[],h) else
  match zero? P elem with
  | some z=>if plainV 100 z then(h.store b o (zeroCells z.cells.toList n)).map fun h'=>(.tuple #[],h') else none
  | none=>none
 | _,_=>none
def oZ(t:TI)(l c:Value)(h:Hp):Option (Value×Hp) :=
 match P.underlying t,l,c with
 | some (.slice elem),.int _ len,.int _ cap =>
  match P.info? elem with
  | some i =>
   if 0<=len/\len<=cap/\i.bytes * cap<=2 ^ 47/\cap<=IntKind.i64.max then
    match i.zero with
    | some z=>if z.cells.size=i.size && !(i.size=0)&&plainV 100 z then some (.slice (some ⟨h.next,0,none⟩) len.toNat cap.toNat,h.alloc (zeroCells z.cells.toList cap.toNat) elem) else none
    | none=>none
   else none
  | none=>none
 | _,_,_=>none
def Ly(es:List MapEntry)(i:Nat)(k x:Value):List MapEntry:=es.modify i fun e=>{e with key:=k,val:=x}
def GY(es:List MapEntry)(i:Nat)(k:Value):List MapEntry:=es.modify i fun e=>{e with key:=k}
def oB(es:List MapEntry)(i:Nat)(k:Value):Bool :=
 match es[i]? with
 | some e=>Instr.sameBits 10000 e.key k
 | none=>false
def iS(t:TI)(m k x:Value)(h:Hp):Option Hp :=
 match P.underlying t,m with
 | some (.map kt _),.map (some b) =>
  if !keyOk P kt k then none else
  match h.ob b with
  | some (.map es clock) =>
   match findK P kt k es with
   | some (some (i,_))=>if oB es i k then some (h.setOb b (.map (Ly es i k x) clock)) else none
   | some none=>some (h.setOb b (.map (es++[⟨k,x,clock⟩]) (clock+1)))
   | none=>none
  | _=>none
 | _,_=>none
def jU(t:TI)(m k:Value)(h:Hp):Option (Value×Hp) :=
 match P.underlying t,m with
 | some (.map kt et),.map (some b) =>
  if !keyOk P kt k then none else
  match h.ob b with
  | some (.map es clock) =>
   match findK P kt k es with
   | some (some (i,v))=>if !oB es i k then none else match es[i]? with
    | some e=>some (.tuple #[v,.int .i64 e.born],h.setOb b (.map (GY es i k) clock))
    | none=>none
   | some none=>match zero? P et with
    | some z=>if plainV 100 z then some (.tuple #[z,.int .i64 clock],h.setOb b (.map (es++[⟨k,z,clock⟩]) (clock+1))) else none
    | none=>none
   | none=>none
  | _=>none
 | _,_=>none
def gV(m stamp x:Value)(h:Hp):Option Hp :=
 match m,stamp with
 | .map (some b),.int _ born =>
  match h.ob b with
  | some (.map es clock)=>(es.findIdx? fun e=>(e.born:Int)==born).map fun i=>h.setOb b (.map (es.modify i fun e=>{e with val:=x}) clock)
  | _=>none
 | _,_=>none
def xL(t:TI)(m k:Value)(h:Hp):Option (Value×Hp) :=
 match P.underlying t,m with
 | some (.map kt _),.map none=>if keyOk P kt k then some (.tuple #[],h) else none
 | some (.map kt _),.map (some b) =>
  if !keyOk P kt k then none else
  match h.ob b with
  | some (.map es clock) =>
   match findK P kt k es with
   | some (some (i,_))=>some (.tuple #[],h.setOb b (.map (es.eraseIdx i) clock))
   | some none=>some (.tuple #[],h)
   | none=>none
  | _=>none
 | _,_=>none
def qM(t:TI)(x:Value)(h:Hp):Option (Value×Hp) :=
 match P.underlying t,x with
 | some (.map _ _),.map none=>some (ptr h.next 0,h.newOb (.iter none 0 [] 0))
 | some (.map _ _),.map (some b)=>match h.ob b with
  | some (.map _ clock)=>some (ptr h.next 0,h.newOb (.iter (some b) clock [] clock))
  | _=>none
 | _,_=>none
def wM(it:Value)(h:Hp):Option (List (Value×Hp)) :=
 match it with
 | .pointer (some ⟨b,0,none⟩)=>match h.ob b with
  | some (.iter none _ _ _)=>some [(.tuple #[.bool false],h)]
  | some (.iter (some m) since seen last) =>
   match h.ob m with
   | some (.map es clock) =>
    if !seen.isEmpty && !es.isEmpty&&es.all (fun e=>decide (e.born>=last)) then none else
    let left:=es.filter fun e=>!seen.contains e.born
    let old:=left.filter fun e=>decide (e.born < since)
    let new:=left.filter fun e=>decide (e.born>=since)
    some ((if old.isEmpty then [(.tuple #[.bool false],h)] else []) ++
     (old++new).map fun e=>(.tuple #[.bool true,e.key,e.val],h.setOb b (.iter (some m) since (seen++[e.born]) clock)))
   | _=>none
  | _=>none
 | _=>none
def OE(tm:LV)(op:Op)(h:Hp):Option (List (Value×Hp)) :=
 match op with
 | .next it false=>wM (ev tm it) h
 | _=>none
def Jx(c:Option (LV×TI))(id:Nat):Ob :=
 match c with
 | some (cs,e)=>.cells cs e (some id)
 | none=>.map [] 0
def mkOf(tm:LV)(op:Op):Option (Option (LV×TI)×(Nat->Value)) :=
 match op with
 | .box e x=>if fR (ev tm x) then none else some (some ((ev tm x).cells.toList,e),fun id=>ptr id 0)
 | .buildSlice t len parts =>
  match P.underlying t with
  | some (.slice e) =>
   match P.info? e with
   | some i=>match i.zero with
    | some z =>
     if len * i.size > 2 ^ 24||z.cells.size≠i.size||i.size=0 || !plainV 100 z then none else
     (tY (fun j=>some (j * i.size,i.size)) (zeroCells z.cells.toList len) (parts.toList.map fun(j,x)=>(j,ev tm x))).map fun cs=>(some (cs,e),fun id=>.slice (some ⟨id,0,none⟩) len len)
    | none=>none
   | none=>none
  | _=>none
 | .makeMap _ none=>some (none,fun id=>.map (some id))
 | _=>none
def tM(tm:LV)(op:Op)(h:Hp):Option (Value×Hp):=(mkOf P tm op).map fun m=>(m.2 h.next,h.newOb (Jx m.1 h.next))
def AX(tm:LV)(op:Op)(h:Hp):Option (Value×Hp) :=
 match op with
 | .alloc e=>match zero? P e with
  | some z=>if plainV 100 z then some (ptr h.next 0,h.alloc z.cells.toList e) else none
  | none=>none
 | .store t a x =>
  match ev tm a,size? P t with
  | .pointer (some ⟨b,o,none⟩),some n=>if(ev tm x).cells.size=n then(h.store b o (ev tm x).cells.toList).map fun h'=>(undef,h') else none
  | _,_=>none
 | .makeSlice t l c=>oZ P t (ev tm l) (ev tm c) h
 | .makeMap t r=>match r with
  | none=>some (.map (some h.next),h.newOb (.map [] 0))
  | some x=>match P.underlying t,ev tm x with
   | some (.map _ _),.int _ _=>some (.map (some h.next),h.newOb (.map [] 0))
   | _,_=>none
 | .mapUpdate t m k x | .insert t m k x=>(iS P t (ev tm m) (ev tm k) (ev tm x) h).map fun h'=>(undef,h')
 | .mapEntry t m k=>jU P t (ev tm m) (ev tm k) h
 | .entryStore _ m s x=>(gV (ev tm m) (ev tm s) (ev tm x) h).map fun h'=>(undef,h')
 | .range t x=>qM P t (ev tm x) h
 | .call {callee:=.builtin .delete,args,argTypes} =>
  match argTypes.toList,args.toList with
  | t::_,[m,k]=>xL P t (ev tm m) (ev tm k) h
  | _,_=>none
 | .convert src dst x =>
  match P.underlying src,P.underlying dst,ev tm x with
  | some .string,some (.slice e),.string s=>match P.underlying e with
   | some (.int .u8)=>some (.slice (some ⟨h.next,0,some 1⟩) s.size s.size,h.alloc (s.data.toList.map fun b=>.int .u8 b.toNat) e)
   | _=>none
  | _,_,_=>none
 | .call {callee:=.builtin .append,args,argTypes} =>
  match argTypes.toList,args.toList with
  | [t,xt],[s,x]=>aQ P t xt (ev tm s) (ev tm x) h
  | _,_=>none
 | .call {callee:=.builtin .copy,args,argTypes} =>
  match argTypes.toList,args.toList with
  | t::_,[d,x]=>qO P t (ev tm d) (ev tm x) h
  | _,_=>none
 | .call {callee:=.builtin .clear,args,argTypes} =>
  match argTypes.toList,args.toList with
  | t::_,[x]=>Cm P t (ev tm x) h
  | _,_=>none
 | _=>none
inductive Kind where
 | pure | read | eff | call | alt | mk
 deriving DecidableEq
def kind(op:Op):Kind :=
 match op with
 | .load _ _ | .lookup _ _ _ _ | .entry _=>.read
 | .box _ _ | .buildSlice _ _ _ | .makeMap _ none=>.mk
 | .alloc _ | .store _ _ _ | .makeSlice _ _ _ | .makeMap _ _ | .mapUpdate _ _ _ _ | .insert _ _ _ _ | .mapEntry _ _ _ | .entryStore _ _ _ _ | .range _ _=>.eff
 | .next _ _=>.alt
 | .convert src dst _ =>
  match P.underlying src,P.underlying dst with
  | some .string,some (.slice _)=>.eff
  | some (.slice _),some .string=>.read
  | _,_=>.pure
 | .call {callee:=.builtin .append,..} | .call {callee:=.builtin .copy,..} | .call {callee:=.builtin .clear,..} | .call {callee:=.builtin .delete,..}=>.eff
 | .call {callee:=.builtin .len,argTypes,..}=>if oA P argTypes then .read else .pure
 | .call {callee:=.builtin _,..}=>.pure
 | .call _=>.call
 | _=>.pure
def methodOf(t:TI)(name:String):Option FuncId :=
 match P.info? t with
 | some i=>match i.methods.find? (·.name==name) with
  | some m=>if !m.path.isEmpty then none else
   match m.func,P.underlying t with
   | some (f,true),some (.pointer _)=>some f
   | some (_,false),some (.pointer _)=>none
   | some (f,false),some _=>some f
   | _,_=>none
  | none=>none
 | none=>none
def callee(tm:LV)(op:Op):Option (FuncId×LV) :=
 match op with
 | .call {callee:=.value f,args,..} =>
  match ev tm f with
  | .func (.func g) first captured=>if g < P.funcs.size then some (g,first.toList++args.toList.map (ev tm)++captured.toList) else none
  | .func (.yield l) first captured=>if first.size=0/\captured.size=0 then some (P.funcs.size+l,args.toList.map (ev tm)) else none
  | _=>none
 | .call {callee:=.invoke r name,args,..} =>
  match ev tm r with
  | .iface t v=>match methodOf P t name with
   | some g=>if g < P.funcs.size && !fR v then some (g,v::args.toList.map (ev tm)) else none
   | none=>none
  | _=>none
 | _=>none
def xR(v:Value)(want:Bool):Option Bool :=
 match v with
 | .bool b=>some (b==want)
 | .tuple vs=>if vs.size=0 then some false else none
 | _=>none
def wants(ops:List Oper)(tm:LV)(o:Oper):Option Bool :=
 match o.guard with
 | none=>some true
 | some (j,want) =>
  match (ops[j]?).bind (·.dst) with
  | some d=>xR (tm.getD d undef) want
  | none=>some false
structure Al(R:Type)where
 bot:R
 chk:Value->OV->R->R
 lp:(Nat->R)->R
 all:List R->R
def opt{R α:Type}(bot:R)(o:Option α)(k:α->R):R :=
 match o with
 | some v=>k v
 | none=>bot
def alP:Al Prop:=⟨False,fun v o r=>o=some v/\r,fun f=>∃n,f n,fun l=>∀r∈l,r⟩
def rT:(fuel:Nat)->Value->Value->Bool
 | _,.bool a,.bool b=>a==b
 | _,.int j a,.int k b=>j==k&&a==b
 | _,.string a,.string b=>a.data.toList==b.data.toList
 | _,.pointer a,.pointer b=>a==b
 | _,.slice a n c,.slice b m d=>a==b&&n==m&&c==d
 | _,.map a,.map b=>a==b
 | _,.nilIface,.nilIface=>true
 | _,.nilFunc,.nilFunc=>true
 | n+1,.iface t v,.iface u w=>t==u&&rT n v w
 | n+1,.agg a,.agg b=>a.size==b.size&&(a.toList.zip b.toList).all fun(x,y)=>rT n x y
 | n+1,.func f a b,.func g c d=>decide (f=g)&&(a.size==c.size&&(a.toList.zip c.toList).all fun(x,y)=>rT n x y)&&(b.size==d.size&&(b.toList.zip d.toList).all fun(x,y)=>rT n x y)
 | _,_,_=>false
def iY(fuel:Nat):Al Bool:=⟨false,fun v o r=>o.any (rT 100 v)&&r,fun f=>f fuel,fun l=>l.all id⟩
section
variable {R:Type} (A:Al R) (rZ:FuncId->LV->Hp->(Value->Hp->R)->R)
def nT(ops:List Oper)(o:Oper)(tm:LV)(h:Hp)(k:Value->Hp->R):R :=
 match wants ops tm o with
 | none=>A.bot
 | some w =>
  match kind P o.op with
  | .pure=>opt A.bot (if w then pop P tm o.op else some undef) fun v=>k v h
  | .read=>opt A.bot (if w then rop P tm o.op h else some undef) fun v=>k v h
  | .eff=>opt A.bot (if w then AX P tm o.op h else some (undef,h)) fun r=>k r.1 r.2
  | .call=>if w then opt A.bot (callee P tm o.op) fun fa=>rZ fa.1 fa.2 h k else k undef h
  | .alt=>if w then opt A.bot (OE tm o.op h) fun l=>A.all (l.map fun r=>k r.1 r.2) else k undef h
  | .mk=>opt A.bot (if w then tM P tm o.op h else some (undef,h)) fun r=>k r.1 r.2
def pP(ops:List Oper):List Oper->LV->Hp->(LV->Hp->R)->R
 | [],tm,h,k=>k tm h
 | o::rest,tm,h,k=>nT P A rZ ops o tm h fun v h'=>pP ops rest (put tm o.dst v) h' k
def isAlloc:Op->Bool
 | .alloc _=>true
 | _=>false
def isEff(op:Op):Bool:=!isAlloc op&&(kind P op == .eff||kind P op == .call||kind P op == .alt)
def Tp(t:Nat):Nat:=2 ^ (t % 128) * (2 ^ 128) ^ (t / 128)
theorem RZ(t:Nat):Tp t=2 ^ t:=by
 unfold Tp;rw[<-Nat.pow_mul,<-Nat.pow_add];congr 1
 omega
def bitsOf(l:LN):Nat:=l.foldl (fun s t=>s ||| Tp t) 0
structure Inf where
 em:Nat
 am:Nat
 dm:Nat
 lm:Nat
 eff:Bool
def rY(ops:List Oper)(acc:List Inf)(o:Oper):Inf where
 em:=bitsOf ((o.after.toList.filter (Region.binds .any)).map (·.on))
 am:=(o.after.toList.filter (Region.binds .any)).foldl (fun s e=>s ||| 2 ^ e.on ||| ((acc[e.on]?).map (·.am)).getD 0) 0
 dm:=bitsOf o.dst.toList
 lm:=bitsOf (Oper.looksAt ops.toArray o)
 eff:=isEff P o.op
def iB(ops:List Oper):List Oper->List Inf->List Inf
 | [],acc=>acc
 | o::rest,acc=>iB ops rest (acc++[rY P ops acc o])
def infos(ops:List Oper):List Inf:=iB P ops ops []
def oT(fs:List Inf):(fuel:Nat)->(rem:LN)->(done:Nat)->LN
 | 0,_,_=>[]
 | n+1,rem,done =>
  match rem.find? fun i=>(fs[i]?).any fun f=>!f.eff&&(f.em &&& done)==f.em with
  | some i=>i::oT fs n (rem.erase i) (done ||| 2 ^ i)
  | none=>match rem.find? fun i=>(fs[i]?).any fun f=>(f.em &&& done)==f.em with
   | some i=>i::oT fs n (rem.erase i) (done ||| 2 ^ i)
   | none=>[]
def clash(f g:Inf):Bool:=!((f.dm &&& (g.lm ||| g.dm))==0) || !((g.dm &&& f.lm)==0)
def orderOk(fs:List Inf):LN->(done:LN)->(doneM effs:Nat)->Bool
 | [],_,doneM,_=>doneM==2 ^ fs.length - 1
 | i::rest,done,doneM,effs =>
  match fs[i]? with
  | none=>false
  | some f =>
   !doneM.testBit i&&(f.em &&& doneM)==f.em&&(effs &&& f.am)==effs &&
   (done.all fun j=>match fs[j]? with
    | some g=>!clash g f||f.am.testBit j
    | none=>false) &&
   orderOk fs rest (i::done) (doneM ||| 2 ^ i) (if f.eff then effs ||| 2 ^ i else effs)
def preAlloc:List Oper->Hp->Option (List OV×Hp)
 | [],h=>some ([],h)
 | o::rest,h =>
  match o.op with
  | .alloc e=>match zero? P e with
   | some z=>if plainV 100 z then match preAlloc rest (h.alloc z.cells.toList e) with
     | some (l,h')=>some (some (ptr h.next 0)::l,h')
     | none=>none
    else none
   | none=>none
  | _=>match preAlloc rest h with
   | some (l,h')=>some (none::l,h')
   | none=>none
structure Owed where
 idx:Nat
 op:Op
 tm:LV
 v:Value
def eY(am:Nat)(h:Hp)(bF:List Owed)(r:R):R :=
 bF.foldr (fun d r=>if am.testBit d.idx then r else A.chk d.v (rop P d.tm d.op h) r) r
def xDraw(ops:List Oper)(fs:List Inf)(pre:List OV):LN->(tm:LV)->(bF:List Owed)->Hp->(LV->Hp->R)->R
 | [],tm,_,h,k=>k tm h
 | i::rest,tm,bF,h,k =>
  match ops[i]?,fs[i]? with
  | some o,some f =>
   match wants ops tm o with
   | none=>A.bot
   | some w =>
    match pre.getD i none with
    | some v=>xDraw ops fs pre rest (put tm o.dst (if w then v else undef)) bF h k
    | none =>
     match kind P o.op with
     | .pure=>opt A.bot (if w then pop P tm o.op else some undef) fun v=>xDraw ops fs pre rest (put tm o.dst v) bF h k
     | .read=>opt A.bot (if w then rop P tm o.op h else some undef) fun v=>xDraw ops fs pre rest (put tm o.dst v) (if w then⟨i,o.op,tm,v⟩::bF else bF) h k
     | .eff=>opt A.bot (if w then AX P tm o.op h else some (undef,h)) fun r=>eY P A f.am r.2 bF (xDraw ops fs pre rest (put tm o.dst r.1) bF r.2 k)
     | .call =>
      if w then opt A.bot (callee P tm o.op) fun fa=>rZ fa.1 fa.2 h fun v h'=>eY P A f.am h' bF (xDraw ops fs pre rest (put tm o.dst v) bF h' k)
      else eY P A f.am h bF (xDraw ops fs pre rest (put tm o.dst undef) bF h k)
     | .alt =>
      if w then opt A.bot (OE tm o.op h) fun l=>A.all (l.map fun r=>eY P A f.am r.2 bF (xDraw ops fs pre rest (put tm o.dst r.1) bF r.2 k))
      else eY P A f.am h bF (xDraw ops fs pre rest (put tm o.dst undef) bF h k)
     | .mk=>opt A.bot (if w then tM P tm o.op h else some (undef,h)) fun r=>xDraw ops fs pre rest (put tm o.dst r.1) bF r.2 k
  | _,_=>A.bot
def jZ(ops:List Oper)(tm:LV)(h:Hp)(k:LV->Hp->R):R :=
 if orderOk (infos P ops) (oT (infos P ops) ops.length (List.range ops.length) 0) [] 0 0 then
  opt A.bot (preAlloc P ops h) fun r=>xDraw P A rZ ops (infos P ops) r.1 (oT (infos P ops) ops.length (List.range ops.length) 0) tm [] r.2 k
 else A.bot
def wr:Code->List Tmp
 | .region _ ops _=>ops.toList.filterMap (·.dst)
 | .seq a b=>wr a++wr b
 | .cond _ a b=>wr a++wr b
 | .block _ c=>wr c
 | .loop c=>wr c
 | .scope c=>wr c
 | _=>[]
def aX:Code->ON
 | .region id _ _=>some id
 | .seq a b=>(aX a).or (aX b)
 | .cond _ a b=>(aX a).or (aX b)
 | .block _ c=>aX c
 | .loop c=>aX c
 | .scope c=>aX c
 | .rangeFunc _ _ a b=>(aX a).or (aX b)
 | _=>none
def forget(ws kp:List Tmp)(tm:LV):LV:=ws.foldl (fun tm t=>if kp.contains t then tm else tm.set t unk) tm
def eK:List Tmp->LV->(i:Nat)->LV->LV
 | [],_,_,tm=>tm
 | t::ts,vals,i,tm=>eK ts vals (i+1) (tm.set t (vals.getD i undef))
def pY(bot:R)(body:(Exit->LV->Hp->R)->LV->Hp->R)(kp:List Tmp)(k:Exit->LV->Hp->R):Nat->LV->Hp->R
 | 0,_,_=>bot
 | n+1,vals,h=>body (fun e tm h'=>match e with
   | .normal=>pY bot body kp k n (kp.map fun t=>tm.getD t undef) h'
   | e=>k e tm h') vals h
def wD(bot:R)(body:(Exit->LV->Hp->R)->LV->Hp->R)(k:Exit->LV->Hp->R):Nat->LV->Hp->R
 | 0,_,_=>bot
 | n+1,tm,h=>body (fun e tm h'=>match e with
   | .normal=>wD bot body k n tm h'
   | e=>k e tm h') tm h
def IB:List Tmp->Bool
 | [t]=>t==999999999
 | _=>false
def CV(b:Code):Nat:=1000000+(aX b).getD 0
def BG(kp:List Tmp)(a:Code)(tm dE:LV):LV :=
 match kp with
 | []=>dE
 | kp=>eK kp (kp.map fun t=>dE.getD t undef) 0 (forget (wr a) kp tm)
structure Cx where
 me:FuncId
 ro:ON
def loopAt(h:Hp)(l:Nat):Option Lp :=
 match h.ob l with
 | some (.loop r)=>some r
 | _=>none
def Cx.ok(cx:Cx)(h:Hp):Bool :=
 match cx.ro with
 | none=>true
 | some l=>(loopAt h l).isSome
def vA(bot:R)(l:Nat)(tm:LV)(k:Exit->LV->Hp->R)(h:Hp):R :=
 match loopAt h l with
 | some r=>if r.state = .busy then bot else
  match r.pending with
  | none=>k .normal tm (h.setOb l (.loop {r with state:=.exhausted}))
  | some .ret=>k .ret tm (h.setOb l (.loop {r with state:=.exhausted}))
  | some (.exit id)=>k (.exit id) tm (h.setOb l (.loop {r with state:=.exhausted}))
  | _=>bot
 | none=>bot
def xC(cx:Cx)(gX:Nat->List Tmp):Code->(Exit->LV->Hp->R)->LV->Hp->R
 | .skip,k,tm,h=>k .normal tm h
 | .region _ ops false,k,tm,h=>pP P A rZ ops.toList ops.toList tm h fun tm h=>k .normal tm h
 | .region _ ops true,k,tm,h=>jZ P A rZ ops.toList tm h fun tm h=>k .normal tm h
 | .seq a b,k,tm,h=>xC cx gX a (fun e dE h=>match e with
   | .normal=>xC cx gX b k (BG (gX (CV b)) a tm dE) h
   | e=>k e dE h) tm h
 | .cond c a b,k,tm,h =>
  match ev tm c with
  | .bool t=>if t then xC cx gX a k tm h else xC cx gX b k tm h
  | _=>A.bot
 | .block id c,k,tm,h=>xC cx gX c (fun e tm h=>match e with
   | .exit i=>if i=id then k .normal tm h else k (.exit i) tm h
   | e=>k e tm h) tm h
 | .loop c,k,tm,h =>
  let kp:=gX ((aX c).getD 0)
  let eC:=forget (wr c) kp tm
  if IB kp then A.lp fun n=>wD A.bot (fun k tm h=>xC cx gX c k tm h) k n tm h else
  A.lp fun n=>pY A.bot (fun k vals h=>xC cx gX c k (eK kp vals 0 eC) h) kp k n (kp.map fun t=>tm.getD t undef) h
 | .exit id,k,tm,h=>k (.exit id) tm h
 | .ret,k,tm,h=>k .ret tm h
 | .label _,k,tm,h=>k .normal tm h
 | .scope c,k,tm,h=>xC cx gX c (fun e tm h=>match e with
   | .goto _=>A.bot
   | e=>k e tm h) tm h
 | .rangeFunc g ps asg body,k,tm,h =>
  if cx.ok h then
   match ev tm g with
   | .func (.func f) first captured =>
    if f < P.funcs.size then
     rZ f (first.toList++[.func (.yield h.next) #[] #[]]++captured.toList) (h.newOb (.loop ⟨.ready,none,cx.me,tm,ps.toList,asg,body⟩)) fun _ h'=>vA A.bot h.next tm k h'
    else A.bot
   | _=>A.bot
  else A.bot
 | _,_,_,_=>A.bot
def setArgs:List Tmp->LV->LV->LV
 | t::ts,v::vs,tm=>setArgs ts vs (tm.set t v)
 | _,_,tm=>tm
def KS(bot:R)(l:Nat)(k:Value->Hp->R)(e:Exit)(h:Hp):R :=
 match loopAt h l with
 | some r=>match e with
  | .normal=>k (.bool true) (h.setOb l (.loop {r with state:=.ready,pending:=none}))
  | .ret=>k (.bool false) (h.setOb l (.loop {r with state:=.done,pending:=some .ret}))
  | .exit id=>k (.bool false) (h.setOb l (.loop {r with state:=.done,pending:=some (.exit id)}))
  | _=>bot
 | none=>bot
def sH(gX:FuncId->Nat->List Tmp)(l:Nat)(args:LV)(h:Hp)(k:Value->Hp->R):R :=
 match loopAt h l with
 | some r =>
  if r.params.length=args.length then
   xC P A rZ ⟨r.fn,some l⟩ (gX r.fn) r.assign (fun e tm h=>match e with
    | .normal=>match loopAt h l with
     | some r'=>if r'.state = .ready then xC P A rZ ⟨r.fn,some l⟩ (gX r.fn) r.body (fun e _ h=>KS A.bot l k e h) tm (h.setOb l (.loop {r' with state:=.busy})) else A.bot
     | none=>A.bot
    | _=>A.bot) (setArgs r.params args r.tm) h
  else A.bot
 | none=>A.bot
def jP(fn:Func)(tm:LV)(h:Hp):OV :=
 match fn.results.toList.mapM fun
  | .tmp t=>some (tm.getD t undef)
  | .cell a t=>nB P t (tm.getD a undef) h with
 | some [v]=>some v
 | some vs=>some (.tuple vs.toArray)
 | none=>none
def IY(f:FuncId)(gX:Nat->List Tmp)(fn:Func)(c:Code)(args:LV)(h:Hp)(k:Value->Hp->R):R :=
 xC P A rZ ⟨f,none⟩ gX c (fun e tm h'=>match e with
  | .normal | .ret=>opt A.bot (jP P fn tm h') fun v=>k v h'
  | _=>A.bot) (args++List.replicate (fn.ntmps - args.length) undef) h
end
def jG(fn:Func):Bool:=!(fn.name == "runtime.NumGoroutine")
def xF{R:Type}(A:Al R)(gX:FuncId->Nat->List Tmp):Nat->FuncId->LV->Hp->(Value->Hp->R)->R
 | 0,_,_,_,_=>A.bot
 | n+1,f,args,h,k =>
  match P.funcs[f]? with
  | some fn =>
   match fn.body with
   | some c=>if jG fn then IY P A (xF A gX n) f (gX f) fn c args h k else A.bot
   | none=>A.bot
  | none=>sH P A (xF A gX n) gX (f - P.funcs.size) args h k
def Hp.empty:Hp:=⟨.leaf,.leaf,0⟩
end
end Go.Cn
