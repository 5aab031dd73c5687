/- Joined: RefW, DifV, CoB, CoC, CpBs, CpA, CpB, CpC, CpD, CoD. -/
import Derived.Test.YtmapagggnigfpaaGreatDn10
import Derived.Test.YtmapagggnigfpaaGreatProg
import Derived.KernelRfl
set_option linter.unusedVariables false
set_option maxRecDepth 100000
set_option maxHeartbeats 4000000
namespace Go.Proofs.YtmapagggnigfpaaGreat.vc
open Cn
open Value (int bool string slice pointer agg tuple)
variable {C:CT} {h:Hp} {K:KT}
def Cz:FuncId->Bool:=fun f=>f==70||f==20||f==43||f==169||f==50||f==89||f==72||f==71||f==57||f==44
theorem Iu{G a1 a2:OA}{O U l1 c1 l2 c2:Nat}:vX C Tryz.prog Cz eE Tryz.f42 [agg (Array.mk [slice G O U,slice a1 l1 c1,slice a2 l2 c2])] h K=(∀b,b=h.alloc [slice G O U,slice a1 l1 c1,slice a2 l2 c2] 122->∀d,d=b.alloc [nS,nS,nS] 122->pA h.next 0/\∃a l c,(rD d h.next 0 1 [slice a l c])/\pA h.next 0/\∃j k o,(rD d h.next 1 1 [slice j k o])/\pA h.next 0/\∃e f g,(rD d h.next 2 1 [slice e f g])/\∃r m n i,aQ Tryz.prog 59 59 nS (slice a l c) d=some (slice r m n,i)/\(rD i h.next 2 1 [slice e f g])/\(rD i h.next 1 1 [slice j k o])/\∃a s t p,aQ Tryz.prog 65 65 nS (slice j k o) i=some (slice a s t,p)/\(rD p h.next 2 1 [slice e f g])/\∃u v w x,aQ Tryz.prog 120 120 nS (slice e f g) p=some (slice u v w,x)/\pA b.next 0/\∃q,x.store b.next 0 [slice r m n,slice a s t,slice u v w]=some q/\∃a l c y z A B D E,(rD q b.next 0 3 [slice a l c,slice y z A,slice B D E])/\K (agg #[slice a l c,slice y z A,slice B D E]) q):=by kernel_rfl
theorem Fp{E a1 a2:OA}{G O l1 c1 l2 c2:Nat}:vX C Tryz.prog Cz eE Tryz.f43 [agg (Array.mk [slice E G O,slice a1 l1 c1,slice a2 l2 c2])] h K=(∀d,d=h.alloc [slice E G O,slice a1 l1 c1,slice a2 l2 c2] 122->∃a l c e f g i j k,(rD d h.next 0 3 [slice a l c,slice e f g,slice i j k])/\C 70 [agg #[slice a l c,slice e f g,slice i j k]] d fun v d=>∃b,v=bool b/\if b then K (int .u8 1) d else K (int .u8 2) d):=by kernel_rfl
def CD:SH:=fun i=>if i=4 then [(3,118),(4,181),(5,3)] else if i=13 then [(10,3)] else []
theorem DQ{p w rt off:Int}{ab sa:OA}{lb cb ls cs:Nat}{tn:Bool}:vX C Tryz.prog Cz CD Tryz.f41 [agg (Array.mk [int .i64 p,int .i64 w,slice ab lb cb,int .i64 rt,slice sa ls cs,bool tn,int .i64 off])] h K=(∀(b:Hp),b=h.alloc [int .i64 p,int .i64 w,slice ab lb cb,int .i64 rt,slice sa ls cs,bool tn,int .i64 off] 27->∃(I:IT),(∃(m:Nat),I [nS,nS,int .i64 0] m b)/\∀(a:OA) (l c:Nat) (k:OA) (x z:Nat) (n:Int) (m:Nat) (d:Hp),I [slice a l c,slice k x z,int .i64 n] m d->pA h.next 0/\∃(a8:OA) (A a9:Nat),(rD d h.next 2 1 [slice a8 A a9])/\if bO n (aE A) then pA h.next 0/\∃(r:OA) (B ba:Nat),(rD d h.next 2 1 [slice r B ba])/\(r.isSome/\bS n B)/\∃(E:OA) (F G:Nat) (H:OA) (L M:Nat) (N:OA) (P Q:Nat),(rD d (blk r) (aA (Cn.off r) n 3) 3 [slice E F G,slice H L M,slice N P Q])/\∀(b:Hp),b=d.alloc [nS,nS,nS] 68->pA d.next 0/\∃(e:Hp),b.store d.next 0 [slice E F G,slice H L M,slice N P Q]=some e/\∀(b:Hp),b=e.alloc [nS,nS,nS] 122->pA d.next 0/\∃(R:OA) (S T:Nat),(rD b d.next 0 1 [slice R S T])/\∃(U:OA) (V W:Nat) (X:Hp),aQ Tryz.prog 59 59 nS (slice R S T) b=some (slice U V W,X)/\pA e.next 0/\pA e.next 0/\∃(b:Hp),X.store e.next 0 [slice U V W]=some b/\pA d.next 0/\∃(Y:OA) (Z O:Nat),(rD b d.next 1 1 [slice Y Z O])/\∃(ac:OA) (ad ae:Nat) (af:Hp),aQ Tryz.prog 65 65 nS (slice Y Z O) b=some (slice ac ad ae,af)/\pA e.next 0/\pA e.next 1/\∃(b:Hp),af.store e.next 1 [slice ac ad ae]=some b/\∃(s:IT),(∃(m:Nat),s [int .i64 0] m b)/\∀(j:Int) (y:Nat) (f:Hp),s [int .i64 j] y f->pA d.next 0/\∃(bb:OA) (ag bc:Nat),(rD f d.next 2 1 [slice bb ag bc])/\if bO j (aE ag) then pA d.next 0/\∃(a:OA) (l c:Nat),(rD f d.next 2 1 [slice a l c])/\(a.isSome/\bS j l)/\∃(g:Int),(rD f (blk a) (aA (Cn.off a) j 1) 1 [int .i64 g])/\if aR (bO g 0) true (iE g n)=true then ∃(i:Nat),aI i y/\s [int .i64 (aG .i64 j 1)] i f else pA e.next 0/\∃(a:OA) (l c:Nat),(rD f e.next 2 1 [slice a l c])/\(k.isSome/\bS g x)/\∃(D:Nat->Int),(rD f (blk k) (aA (Cn.off k) g 32) 32 ((aK .u8 32 D)))/\∀(b:Hp),b=f.alloc (([int .u32 (cC .u32 (aG .i64 g 2))]++aK .u8 32 D)) 131->∃(o:OA) (m n:Nat) (q:Hp),aQ Tryz.prog 120 120 (slice a l c) (slice (sB f.next) 1 1) b=some (slice o m n,q)/\pA e.next 0/\pA e.next 2/\∃(b:Hp),q.store e.next 2 [slice o m n]=some b/\∃(i:Nat),aI i y/\s [int .i64 (aG .i64 j 1)] i b else pA h.next 0/\∃(g ah:Int),(rD f h.next 0 2 [int .i64 g,int .i64 ah])/\∃(ai:OA) (aj ak:Nat) (o:OA) (al am:Nat) (an:OA) (ao ap:Nat),(rD f e.next 0 3 [slice ai aj ak,slice o al am,slice an ao ap])/\C 50 [agg #[int .i64 g,int .i64 ah],agg #[slice ai aj ak,slice o al am,slice an ao ap]] f fun v b=>∃(D:Nat->Int) (bd:Int),v=tuple #[agg (Array.mk ((aK .u8 32 D))),int .i64 bd]/\∀(q:Hp),q=b.alloc fH 41->pA b.next 0/\∃(t:Hp),q.store b.next 0 ((aK .u8 32 D))=some t/\∃(D:Nat->Int),(rD t b.next 0 32 ((aK .u8 32 D)))/\∀(b:Hp),b=t.alloc ((aK .u8 32 D)) 41->∃(aq:OA) (ar au:Nat) (u:Hp),aQ Tryz.prog 181 181 (slice k x z) (slice (sB t.next) 1 1) b=some (slice aq ar au,u)/\∃(av:OA) (aw ax:Nat) (ay:OA) (az a0:Nat) (a1:OA) (a2 a3:Nat),(rD u e.next 0 3 [slice av aw ax,slice ay az a0,slice a1 a2 a3])/\∀(b:Hp),b=u.alloc [slice av aw ax,slice ay az a0,slice a1 a2 a3] 122->∃(a4:OA) (a5 a6:Nat) (a7:Hp),aQ Tryz.prog 118 118 (slice a l c) (slice (sB u.next) 1 1) b=some (slice a4 a5 a6,a7)/\∃(i:Nat),aI i m/\I [slice a4 a5 a6,slice aq ar au,int .i64 (aG .i64 n 1)] i a7 else K (slice a l c) d):=by kernel_rfl
def CC:SH:=fun i=>if i=4 then [(3,38),(5,3)] else if i=11 then [(7,4),(8,124),(9,9),(10,35),(11,3)] else []
theorem DP{p w rt off:Int}{ab sa:OA}{lb cb ls cs:Nat}{tn:Bool}:vX C Tryz.prog Cz CC Tryz.f21 [agg (Array.mk [int .i64 p,int .i64 w,slice ab lb cb,int .i64 rt,slice sa ls cs,bool tn,int .i64 off])] h K=(∀(e:Hp),e=h.alloc [int .i64 p,int .i64 w,slice ab lb cb,int .i64 rt,slice sa ls cs,bool tn,int .i64 off] 27->∃(n S:Int) (a:OA) (l c:Nat) (T:Int) (U:OA) (V W:Nat) (b:Bool) (X:Int),(rD e h.next 0 7 [int .i64 n,int .i64 S,slice a l c,int .i64 T,slice U V W,bool b,int .i64 X])/\C 41 [agg #[int .i64 n,int .i64 S,slice a l c,int .i64 T,slice U V W,bool b,int .i64 X]] e fun v e=>∃(a:OA) (l c:Nat),v=slice a l c/\∃(I:IT),(∃(m:Nat),I [nS,int .i64 0] m e)/\∀(H:OA) (L c:Nat) (n:Int) (m:Nat) (M:Hp),I [slice H L c,int .i64 n] m M->if aR (bO n (aE l)) (bO n 60000) false=true then(a.isSome/\bS n l)/\∃(Y:OA) (Z O:Nat) (ac:OA) (ad ae:Nat) (af:OA) (ag ah:Nat),(rD M (blk a) (aA (Cn.off a) n 3) 3 [slice Y Z O,slice ac ad ae,slice af ag ah])/\C 42 [agg #[slice Y Z O,slice ac ad ae,slice af ag ah]] M fun v e=>∃(ai:OA) (aj ak:Nat) (al:OA) (am an:Nat) (ao:OA) (ap aq:Nat),v=agg #[slice ai aj ak,slice al am an,slice ao ap aq]/\∀(ar:Hp),ar=e.alloc [nS,nS,nS] 122->pA e.next 0/\∃(P:Hp),ar.store e.next 0 [slice ai aj ak,slice al am an,slice ao ap aq]=some P/\∃(au:OA) (av aw:Nat) (ax:OA) (ay az:Nat) (a0:OA) (a1 a2:Nat),(rD P e.next 0 3 [slice au av aw,slice ax ay az,slice a0 a1 a2])/\C 43 [agg #[slice au av aw,slice ax ay az,slice a0 a1 a2]] P fun v Q=>∃(a3:Int),v=int .u8 a3/\pA h.next 0/\∃(a4 a5:Int),(rD Q h.next 0 2 [int .i64 a4,int .i64 a5])/\∃(a6:OA) (a7 a8:Nat) (a9:OA) (ba bb:Nat) (bc:OA) (bd be:Nat),(rD Q e.next 0 3 [slice a6 a7 a8,slice a9 ba bb,slice bc bd be])/\C 44 [agg #[int .i64 a4,int .i64 a5],agg #[slice a6 a7 a8,slice a9 ba bb,slice bc bd be]] Q fun v bw=>∃(s:BA) (bf:Int),v=tuple #[string s,int .i64 bf]/\∃(j:IT),(∃(m:Nat),j [bool false,int .u8 a3,string s,int .i64 bf,int .i64 0] m bw)/\∀(b:Bool) (q:Int) (s:BA) (k i:Int) (o:Nat) (g:Hp),j [bool b,int .u8 q,string s,int .i64 k,int .i64 i] o g->pA h.next 0/\∃(bx:OA) (bg bz:Nat),(rD g h.next 4 1 [slice bx bg bz])/\if bO i (aE bg) then pA h.next 0/\∃(N:OA) (bh c:Nat),(rD g h.next 4 1 [slice N bh c])/\(N.isSome/\bS i bh)/\∃(E bi bj:Int),(rD g (blk N) (aA (Cn.off N) i 3) 3 [int .i64 E,int .i64 bi,int .i64 bj])/\∀(F:Hp),F=g.alloc [lV,lV,lV] 129->pA g.next 0/\∃(f:Hp),F.store g.next 0 [int .i64 E,int .i64 bi,int .i64 bj]=some f/\pA g.next 0/\∃(bk:Int),(rD f g.next 1 1 [int .i64 bk])/\if cP bk n then ∃(d:Nat),aI d o/\j [bool b,int .u8 q,string s,int .i64 k,int .i64 (aG .i64 i 1)] d f else pA g.next 0/\∃(n:Int),(rD f g.next 0 1 [int .i64 n])/\if bX n 1 then ∃(d:Nat),aI d o/\j [bool true,int .u8 q,string s,int .i64 k,int .i64 (aG .i64 i 1)] d f else if bX n 2 then pA g.next 0/\∃(n:Int),(rD f g.next 2 1 [int .i64 n])/\(iE n 0->pA g.next 0)/\∃(r:Int),(iE n 0->rD f g.next 2 1 [int .i64 r])/\if aR (iE n 0) (bO r (aE l)) false=true then pA h.next 0/\∃(n bl:Int),(rD f h.next 0 2 [int .i64 n,int .i64 bl])/\pA g.next 0/\∃(R:Int),(rD f g.next 2 1 [int .i64 R])/\(a.isSome/\bS R l)/\∃(u:OA) (x c:Nat) (y:OA) (z A:Nat) (bm:OA) (bn B:Nat),(rD f (blk a) (aA (Cn.off a) R 3) 3 [slice u x c,slice y z A,slice bm bn B])/\C 44 [agg #[int .i64 n,int .i64 bl],agg #[slice u x c,slice y z A,slice bm bn B]] f fun v e=>∃(D:BA) (n:Int),v=tuple #[string D,int .i64 n]/\if bX n 0 then pA g.next 0/\∃(n:Int),(rD e g.next 2 1 [int .i64 n])/\(a.isSome/\bS n l)/\∃(bo:OA) (l c:Nat) (bp:OA) (bq br:Nat) (bs:OA) (bt bu:Nat),(rD e (blk a) (aA (Cn.off a) n 3) 3 [slice bo l c,slice bp bq br,slice bs bt bu])/\C 43 [agg #[slice bo l c,slice bp bq br,slice bs bt bu]] e fun v e=>∃(n:Int),v=int .u8 n/\∃(d:Nat),aI d o/\j [bool b,int .u8 n,string D,int .i64 0,int .i64 (aG .i64 i 1)] d e else ∃(d:Nat),aI d o/\j [bool b,int .u8 q,string s,int .i64 k,int .i64 (aG .i64 i 1)] d e else ∃(d:Nat),aI d o/\j [bool b,int .u8 q,string s,int .i64 k,int .i64 (aG .i64 i 1)] d f else if bX n 3 then pA g.next 0/\∃(n:Int),(rD f g.next 2 1 [int .i64 n])/\(iE n 1->pA g.next 0)/\∃(r:Int),(iE n 1->rD f g.next 2 1 [int .i64 r])/\if aR (iE n 1) (qA r 3) false=true then pA g.next 0/\∃(n:Int),(rD f g.next 2 1 [int .i64 n])/\∃(d:Nat),aI d o/\j [bool b,int .u8 (cC .u8 n),string s,int .i64 k,int .i64 (aG .i64 i 1)] d f else ∃(d:Nat),aI d o/\j [bool b,int .u8 q,string s,int .i64 k,int .i64 (aG .i64 i 1)] d f else if bX n 5 then pA e.next 0/\∃(a:OA) (l c:Nat),(rD f e.next 0 1 [slice a l c])/\if dB (aE l) 0 then pA e.next 0/\∃(a:OA) (l c:Nat),(rD f e.next 0 1 [slice a l c])/\(a.isSome/\bS 0 l)/\pA (blk a) (aA (Cn.off a) 0 2)/\∃(D:BA),(rD f (blk a) (cI (aA (Cn.off a) 0 2) 1) 1 [string D])/\if vW D (ByteArray.mk #[97,110,111,116,104,101,114]) then pA e.next 0/\∃(a:OA) (l c:Nat),(rD f e.next 0 1 [slice a l c])/\(a.isSome/\bS 0 l)/\pA (blk a) (aA (Cn.off a) 0 2)/\pA (blk a) (cI (aA (Cn.off a) 0 2) 1)/\∃(t:Hp),f.store (blk a) (cI (aA (Cn.off a) 0 2) 1) [string (ByteArray.mk #[])]=some t/\pA h.next 0/\∃(n r:Int),(rD t h.next 0 2 [int .i64 n,int .i64 r])/\∃(a:OA) (l c:Nat) (u:OA) (x A:Nat) (y:OA) (z B:Nat),(rD t e.next 0 3 [slice a l c,slice u x A,slice y z B])/\C 44 [agg #[int .i64 n,int .i64 r],agg #[slice a l c,slice u x A,slice y z B]] t fun v e=>∃(G:BA) (n:Int),v=tuple #[string G,int .i64 n]/\if bX n 0 then ∃(d:Nat),aI d o/\j [bool b,int .u8 q,string G,int .i64 k,int .i64 (aG .i64 i 1)] d e else ∃(d:Nat),aI d o/\j [bool b,int .u8 q,string s,int .i64 k,int .i64 (aG .i64 i 1)] d e else pA e.next 0/\∃(a:OA) (l c:Nat),(rD f e.next 0 1 [slice a l c])/\(a.isSome/\bS 0 l)/\pA (blk a) (aA (Cn.off a) 0 2)/\pA (blk a) (cI (aA (Cn.off a) 0 2) 1)/\∃(t:Hp),f.store (blk a) (cI (aA (Cn.off a) 0 2) 1) [string (ByteArray.mk #[97,110,111,116,104,101,114])]=some t/\pA h.next 0/\∃(n r:Int),(rD t h.next 0 2 [int .i64 n,int .i64 r])/\∃(a:OA) (l c:Nat) (u:OA) (x A:Nat) (y:OA) (z B:Nat),(rD t e.next 0 3 [slice a l c,slice u x A,slice y z B])/\C 44 [agg #[int .i64 n,int .i64 r],agg #[slice a l c,slice u x A,slice y z B]] t fun v e=>∃(G:BA) (n:Int),v=tuple #[string G,int .i64 n]/\if bX n 0 then ∃(d:Nat),aI d o/\j [bool b,int .u8 q,string G,int .i64 k,int .i64 (aG .i64 i 1)] d e else ∃(d:Nat),aI d o/\j [bool b,int .u8 q,string s,int .i64 k,int .i64 (aG .i64 i 1)] d e else ∃(d:Nat),aI d o/\j [bool b,int .u8 q,string s,int .i64 k,int .i64 (aG .i64 i 1)] d f else if bX n 4 then pA e.next 0/\∃(a:OA) (l c:Nat),(rD f e.next 2 1 [slice a l c])/\if dB (aE l) 0 then pA e.next 0/\∃(a:OA) (l c:Nat),(rD f e.next 2 1 [slice a l c])/\(a.isSome/\bS 0 l)/\pA (blk a) (aA (Cn.off a) 0 33)/\(pA (blk a) (cI (aA (Cn.off a) 0 33) 1)/\bS 0 32)/\∃(n:Int),(rD f (blk a) (aA (cI (aA (Cn.off a) 0 33) 1) 0 1) 1 [int .u8 n])/\(a.isSome/\bS 0 l)/\pA (blk a) (aA (Cn.off a) 0 33)/\(pA (blk a) (cI (aA (Cn.off a) 0 33) 1)/\bS 0 32)/\pA (blk a) (aA (cI (aA (Cn.off a) 0 33) 1) 0 1)/\∃(t:Hp),f.store (blk a) (aA (cI (aA (Cn.off a) 0 33) 1) 0 1) [int .u8 (aG .u8 n 1)]=some t/\pA h.next 0/\∃(n r:Int),(rD t h.next 0 2 [int .i64 n,int .i64 r])/\∃(a:OA) (l c:Nat) (u:OA) (x A:Nat) (y:OA) (z B:Nat),(rD t e.next 0 3 [slice a l c,slice u x A,slice y z B])/\C 44 [agg #[int .i64 n,int .i64 r],agg #[slice a l c,slice u x A,slice y z B]] t fun v e=>∃(D:BA) (n:Int),v=tuple #[string D,int .i64 n]/\if bX n 0 then ∃(d:Nat),aI d o/\j [bool b,int .u8 q,string D,int .i64 k,int .i64 (aG .i64 i 1)] d e else ∃(d:Nat),aI d o/\j [bool b,int .u8 q,string s,int .i64 k,int .i64 (aG .i64 i 1)] d e else ∃(d:Nat),aI d o/\j [bool b,int .u8 q,string s,int .i64 k,int .i64 (aG .i64 i 1)] d f else ∃(d:Nat),aI d o/\j [bool b,int .u8 q,string s,int .i64 k,int .i64 (aG .i64 i 1)] d f else if aR (bX k 0) (aD b) false=true then ∀(e:Hp),e=g.alloc [int .u8 q,int .u32 (cC .u32 (aG .i64 n 2)),int .u64 1,string s] 133->∃(a:OA) (bv E:Nat) (F:Hp),aQ Tryz.prog 38 38 (slice H L c) (slice (sB g.next) 1 1) e=some (slice a bv E,F)/\∃(d:Nat),aI d m/\I [slice a bv E,int .i64 (aG .i64 n 1)] d F else ∃(d:Nat),aI d m/\I [slice H L c,int .i64 (aG .i64 n 1)] d g else K (slice H L c) M):=by kernel_rfl
def CE:SH:=fun i=>if i=7 then [(2,3),(9,42),(10,3)] else []
theorem DT{p w rt off:Int}{ab sa:OA}{lb cb ls cs:Nat}{tn:Bool}{O left:Int}:vX C Tryz.prog Cz CE Tryz.f51 [agg (Array.mk [int .i64 p,int .i64 w,slice ab lb cb,int .i64 rt,slice sa ls cs,bool tn,int .i64 off]),int .i64 O,int .i64 left] h K=(∀d,d=h.alloc [int .i64 p,int .i64 w,slice ab lb cb,int .i64 rt,slice sa ls cs,bool tn,int .i64 off] 27->if qA left 0 then K (tuple #[int .u64 0,int .i64 0]) d else pA h.next 0/\∃a l c,(rD d h.next 2 1 [slice a l c])/\(a.isSome/\bS O l)/\∃q l c r s t u x y,(rD d (blk a) (aA (Cn.off a) O 3) 3 [slice q l c,slice r s t,slice u x y])/\∀z,z=d.alloc [nS,nS,nS] 68->pA d.next 0/\∃o,z.store d.next 0 [slice q l c,slice r s t,slice u x y]=some o/\pA d.next 0/\∃a l c,(rD o d.next 0 1 [slice a l c])/\∃(I:IT),(∃m,I [int .i64 (bB .i64 left 1),int .u64 (cC .u64 (aE l)),int .i64 0] m o)/\∀n j f m e,I [int .i64 n,int .u64 j,int .i64 f] m e->pA d.next 0/\∃a l c,(rD e d.next 2 1 [slice a l c])/\if aR (bO f (aE l)) (dB n 0) false=true then pA d.next 0/\∃a l c,(rD e d.next 2 1 [slice a l c])/\(a.isSome/\bS f l)/\∃g,(rD e (blk a) (aA (Cn.off a) f 1) 1 [int .i64 g])/\(iE g 0->pA d.next 0)/\∃a l c,(iE g 0->rD e d.next 2 1 [slice a l c])/\(iE g 0->a.isSome/\bS f l)/\∃A,(iE g 0->rD e (blk a) (aA (Cn.off a) f 1) 1 [int .i64 A])/\if aR (iE g 0) (bO A O) false=true then ∃B D a l c E F G H b L,(rD e h.next 0 7 [int .i64 B,int .i64 D,slice a l c,int .i64 E,slice F G H,bool b,int .i64 L])/\pA d.next 0/\∃k M Q,(rD e d.next 2 1 [slice k M Q])/\(k.isSome/\bS f M)/\∃N,(rD e (blk k) (aA (Cn.off k) f 1) 1 [int .i64 N])/\C 51 [agg #[int .i64 B,int .i64 D,slice a l c,int .i64 E,slice F G H,bool b,int .i64 L],int .i64 N,int .i64 n] e fun v d=>∃n P,v=tuple #[int .u64 n,int .i64 P]/\∃i,aI i m/\I [int .i64 P,int .u64 (aG .u64 j n),int .i64 (aG .i64 f 1)] i d else ∃i,aI i m/\I [int .i64 n,int .u64 j,int .i64 (aG .i64 f 1)] i e else K (tuple #[int .u64 j,int .i64 n]) e):=by kernel_rfl
theorem Fm{p w rt off:Int}{ab sa:OA}{lb cb ls cs:Nat}{tn:Bool}:vX C Tryz.prog Cz eE Tryz.f25 [agg (Array.mk [int .i64 p,int .i64 w,slice ab lb cb,int .i64 rt,slice sa ls cs,bool tn,int .i64 off])] h K=(∀(e:Hp),e=h.alloc [int .i64 p,int .i64 w,slice ab lb cb,int .i64 rt,slice sa ls cs,bool tn,int .i64 off] 27->∀(j:Hp),j=e.alloc Tl 44->pA h.next 0/\∃(a:OA) (l c:Nat),(rD j h.next 2 1 [slice a l c])/\if bX (aE l) 0 then pA h.next 0/\∃(n H:Int),(rD j h.next 0 2 [int .i64 n,int .i64 H])/\C 49 [agg #[int .i64 n,int .i64 H]] j fun v d=>∃(D:Nat->Int) (n:Int),v=tuple #[agg (Array.mk ((aK .u8 32 D))),int .i64 n]/\∀(k:Hp),k=d.alloc fH 41->pA d.next 0/\∃(E:Hp),k.store d.next 0 ((aK .u8 32 D))=some E/\∃(D:Nat->Int),(rD E d.next 0 32 ((aK .u8 32 D)))/\pA e.next 0/\∃(f:Hp),E.store e.next 0 (([aW]++aK .u8 32 D++[mR,mR]))=some f/\∃(n:Int) (D:Nat->Int) (y z:Int),(rD f e.next 0 35 (([int .u32 n]++aK .u8 32 D++[int .u64 y,int .u64 z])))/\K (agg (Array.mk (([int .u32 n]++aK .u8 32 D++[int .u64 y,int .u64 z])))) f else pA h.next 0/\∃(a:OA) (l c:Nat),(rD j h.next 2 1 [slice a l c])/\pA h.next 0/\∃(n:Int),(rD j h.next 3 1 [int .i64 n])/\(dB n 0->pA h.next 0)/\∃(H:Int),(dB n 0->rD j h.next 3 1 [int .i64 H])/\if aR (dB n 0) (qA H (bB .i64 (aE l) 1)) false=true then pA h.next 0/\∃(n:Int),(rD j h.next 3 1 [int .i64 n])/\∃(y z:Int) (a:OA) (L c:Nat) (M:Int) (N:OA) (P Q:Nat) (b:Bool) (R:Int),(rD j h.next 0 7 [int .i64 y,int .i64 z,slice a L c,int .i64 M,slice N P Q,bool b,int .i64 R])/\C 41 [agg #[int .i64 y,int .i64 z,slice a L c,int .i64 M,slice N P Q,bool b,int .i64 R]] j fun v d=>∃(a:OA) (S c:Nat),v=slice a S c/\∀(k:Hp),k=d.alloc fH 41->pA h.next 0/\∃(A B:Int),(rD k h.next 0 2 [int .i64 A,int .i64 B])/\(a.isSome/\bS (bB .i64 (bB .i64 (aE l) 1) n) S)/\∃(T:OA) (U c:Nat) (V:OA) (W X:Nat) (Y:OA) (Z O:Nat),(rD k (blk a) (aA (Cn.off a) (bB .i64 (bB .i64 (aE l) 1) n) 3) 3 [slice T U c,slice V W X,slice Y Z O])/\C 50 [agg #[int .i64 A,int .i64 B],agg #[slice T U c,slice V W X,slice Y Z O]] k fun v E=>∃(D:Nat->Int) (F:Int),v=tuple #[agg (Array.mk ((aK .u8 32 D))),int .i64 F]/\pA d.next 0/\∃(f:Hp),E.store d.next 0 ((aK .u8 32 D))=some f/\pA h.next 0/\∃(b:Bool),(rD f h.next 5 1 [bool b])/\if b then(pA d.next 0/\bS 0 32)/\∃(x:Int),(rD f d.next (aA 0 0 1) 1 [int .u8 x])/\(pA d.next 0/\bS 0 32)/\pA d.next (aA 0 0 1)/\∃(g:Hp),f.store d.next (aA 0 0 1) [int .u8 (aG .u8 x 1)]=some g/\∃(m o:Int) (a:OA) (q c:Nat) (r:Int) (s:OA) (t u:Nat) (b:Bool) (ac:Int),(rD g h.next 0 7 [int .i64 m,int .i64 o,slice a q c,int .i64 r,slice s t u,bool b,int .i64 ac])/\C 51 [agg #[int .i64 m,int .i64 o,slice a q c,int .i64 r,slice s t u,bool b,int .i64 ac],int .i64 (bB .i64 (bB .i64 (aE l) 1) n),int .i64 100000] g fun v i=>∃(af ag:Int),v=tuple #[int .u64 af,int .i64 ag]/\∃(D:Nat->Int),(rD i d.next 0 32 ((aK .u8 32 D)))/\pA h.next 0/\∃(ad:Int),(rD i h.next 6 1 [int .i64 ad])/\bW 3/\bW 3/\pA e.next 0/\∃(G:Hp),i.store e.next 0 (([int .u32 (cC .u32 (aG .i64 (bB .i64 (bB .i64 (aE l) 1) n) 2))]++aK .u8 32 D++[int .u64 (aG .u64 af (iO (cC .u64 (aG .i64 (iO ad 3) 3)) 3)),mR]))=some G/\∃(n:Int) (D:Nat->Int) (ae ah:Int),(rD G e.next 0 35 (([int .u32 n]++aK .u8 32 D++[int .u64 ae,int .u64 ah])))/\K (agg (Array.mk (([int .u32 n]++aK .u8 32 D++[int .u64 ae,int .u64 ah])))) G else ∃(x m:Int) (a:OA) (q c:Nat) (o:Int) (s:OA) (t u:Nat) (b:Bool) (r:Int),(rD f h.next 0 7 [int .i64 x,int .i64 m,slice a q c,int .i64 o,slice s t u,bool b,int .i64 r])/\C 51 [agg #[int .i64 x,int .i64 m,slice a q c,int .i64 o,slice s t u,bool b,int .i64 r],int .i64 (bB .i64 (bB .i64 (aE l) 1) n),int .i64 100000] f fun v g=>∃(ac af:Int),v=tuple #[int .u64 ac,int .i64 af]/\∃(D:Nat->Int),(rD g d.next 0 32 ((aK .u8 32 D)))/\pA h.next 0/\∃(ag:Int),(rD g h.next 6 1 [int .i64 ag])/\bW 3/\bW 3/\pA e.next 0/\∃(i:Hp),g.store e.next 0 (([int .u32 (cC .u32 (aG .i64 (bB .i64 (bB .i64 (aE l) 1) n) 2))]++aK .u8 32 D++[int .u64 (aG .u64 ac (iO (cC .u64 (aG .i64 (iO ag 3) 3)) 3)),mR]))=some i/\∃(n:Int) (D:Nat->Int) (ad ae:Int),(rD i e.next 0 35 (([int .u32 n]++aK .u8 32 D++[int .u64 ad,int .u64 ae])))/\K (agg (Array.mk (([int .u32 n]++aK .u8 32 D++[int .u64 ad,int .u64 ae])))) i else ∃(n y:Int) (a:OA) (L c:Nat) (z:Int) (N:OA) (P Q:Nat) (b:Bool) (M:Int),(rD j h.next 0 7 [int .i64 n,int .i64 y,slice a L c,int .i64 z,slice N P Q,bool b,int .i64 M])/\C 41 [agg #[int .i64 n,int .i64 y,slice a L c,int .i64 z,slice N P Q,bool b,int .i64 M]] j fun v d=>∃(a:OA) (S c:Nat),v=slice a S c/\∀(k:Hp),k=d.alloc fH 41->pA h.next 0/\∃(n R:Int),(rD k h.next 0 2 [int .i64 n,int .i64 R])/\(a.isSome/\bS (bB .i64 (aE l) 1) S)/\∃(T:OA) (U c:Nat) (V:OA) (W X:Nat) (Y:OA) (Z O:Nat),(rD k (blk a) (aA (Cn.off a) (bB .i64 (aE l) 1) 3) 3 [slice T U c,slice V W X,slice Y Z O])/\C 50 [agg #[int .i64 n,int .i64 R],agg #[slice T U c,slice V W X,slice Y Z O]] k fun v E=>∃(D:Nat->Int) (n:Int),v=tuple #[agg (Array.mk ((aK .u8 32 D))),int .i64 n]/\pA d.next 0/\∃(f:Hp),E.store d.next 0 ((aK .u8 32 D))=some f/\pA h.next 0/\∃(b:Bool),(rD f h.next 5 1 [bool b])/\if b then(pA d.next 0/\bS 0 32)/\∃(n:Int),(rD f d.next (aA 0 0 1) 1 [int .u8 n])/\(pA d.next 0/\bS 0 32)/\pA d.next (aA 0 0 1)/\∃(g:Hp),f.store d.next (aA 0 0 1) [int .u8 (aG .u8 n 1)]=some g/\∃(n A:Int) (a:OA) (q c:Nat) (B:Int) (s:OA) (t u:Nat) (b:Bool) (F:Int),(rD g h.next 0 7 [int .i64 n,int .i64 A,slice a q c,int .i64 B,slice s t u,bool b,int .i64 F])/\C 51 [agg #[int .i64 n,int .i64 A,slice a q c,int .i64 B,slice s t u,bool b,int .i64 F],int .i64 (bB .i64 (aE l) 1),int .i64 100000] g fun v i=>∃(n x:Int),v=tuple #[int .u64 n,int .i64 x]/\∃(D:Nat->Int),(rD i d.next 0 32 ((aK .u8 32 D)))/\pA h.next 0/\∃(m:Int),(rD i h.next 6 1 [int .i64 m])/\bW 3/\bW 3/\pA e.next 0/\∃(G:Hp),i.store e.next 0 (([int .u32 (cC .u32 (aG .i64 (bB .i64 (aE l) 1) 2))]++aK .u8 32 D++[int .u64 (aG .u64 n (iO (cC .u64 (aG .i64 (iO m 3) 3)) 3)),mR]))=some G/\∃(n:Int) (D:Nat->Int) (o r:Int),(rD G e.next 0 35 (([int .u32 n]++aK .u8 32 D++[int .u64 o,int .u64 r])))/\K (agg (Array.mk (([int .u32 n]++aK .u8 32 D++[int .u64 o,int .u64 r])))) G else ∃(n A:Int) (a:OA) (q c:Nat) (B:Int) (s:OA) (t u:Nat) (b:Bool) (F:Int),(rD f h.next 0 7 [int .i64 n,int .i64 A,slice a q c,int .i64 B,slice s t u,bool b,int .i64 F])/\C 51 [agg #[int .i64 n,int .i64 A,slice a q c,int .i64 B,slice s t u,bool b,int .i64 F],int .i64 (bB .i64 (aE l) 1),int .i64 100000] f fun v g=>∃(n x:Int),v=tuple #[int .u64 n,int .i64 x]/\∃(D:Nat->Int),(rD g d.next 0 32 ((aK .u8 32 D)))/\pA h.next 0/\∃(m:Int),(rD g h.next 6 1 [int .i64 m])/\bW 3/\bW 3/\pA e.next 0/\∃(i:Hp),g.store e.next 0 (([int .u32 (cC .u32 (aG .i64 (bB .i64 (aE l) 1) 2))]++aK .u8 32 D++[int .u64 (aG .u64 n (iO (cC .u64 (aG .i64 (iO m 3) 3)) 3)),mR]))=some i/\∃(n:Int) (D:Nat->Int) (o r:Int),(rD i e.next 0 35 (([int .u32 n]++aK .u8 32 D++[int .u64 o,int .u64 r])))/\K (agg (Array.mk (([int .u32 n]++aK .u8 32 D++[int .u64 o,int .u64 r])))) i):=by kernel_rfl
def Dj:SH:=fun i=>if i=2 then [(8,3)] else []
theorem Fo{p w no:Int}{a:OA}{l c:Nat}:vX C Tryz.prog Cz Dj Tryz.f142 [agg (Array.mk [int .i64 p,int .i64 w]),slice a l c,int .u32 no] h K=(∀(b:Hp),b=h.alloc [int .i64 p,int .i64 w] 23->∀(F:Hp),F=b.alloc [nS,nS,nS] 122->∃(I:IT),(∃(m:Nat),I [int .i64 0] m F)/\∀(n:Int) (m:Nat) (d:Hp),I [int .i64 n] m d->if bO n (aE l) then(a.isSome/\bS n l)/\pA (blk a) (aA (off a) n 4)/\∃(G:Int),(rD d (blk a) (cI (aA (off a) n 4) 1) 1 [int .u32 G])/\if cP G no then ∃(H:Nat),aI H m/\I [int .i64 (aG .i64 n 1)] H d else(a.isSome/\bS n l)/\pA (blk a) (aA (off a) n 4)/\∃(t:Int),(rD d (blk a) (aA (off a) n 4) 1 [int .u8 t])/\(cP t 1->a.isSome/\bS n l)/\(cP t 1->pA (blk a) (aA (off a) n 4))/\∃(L:Int),(cP t 1->rD d (blk a) (aA (off a) n 4) 1 [int .u8 L])/\if aR (cP t 1) (cP L 2) false=true then pA b.next 0/\∃(e:Hp),d.store b.next 0 [nS,nS,nS]=some e/\∃(a:OA) (l c:Nat) (u:OA) (g i:Nat) (j:OA) (k o:Nat),(rD e b.next 0 3 [slice a l c,slice u g i,slice j k o])/\K (tuple #[agg #[slice a l c,slice u g i,slice j k o],int .i64 8]) e else ∀(e:Hp),e=d.alloc [nS,nS,nS] 122->∃(M N:Int),(rD e h.next 0 2 [int .i64 M,int .i64 N])/\(a.isSome/\bS n l)/\pA (blk a) (aA (off a) n 4)/\∃(s:BA),(rD e (blk a) (cI (aA (off a) n 4) 3) 1 [string s])/\C 168 [agg #[int .i64 M,int .i64 N],string s] e fun v ah=>∃(j:OA) (g c:Nat) (P:OA) (k i:Nat) (Q:OA) (R o:Nat) (q:Int),v=tuple #[agg #[slice j g c,slice P k i,slice Q R o],int .i64 q]/\pA d.next 0/\∃(f:Hp),ah.store d.next 0 [slice j g c,slice P k i,slice Q R o]=some f/\∃(S:OA) (T c:Nat) (U:OA) (V W:Nat) (X:OA) (Y Z:Nat),(aD (cP q 0)->rD f d.next 0 3 [slice S T c,slice U V W,slice X Y Z])/\(aD (cP q 0)->a.isSome/\bS n l)/\(aD (cP q 0)->pA (blk a) (aA (off a) n 4))/\∃(E:Int),(aD (cP q 0)->rD f (blk a) (aA (off a) n 4) 1 [int .u8 E])/\∃(O:Int),(aD (cP q 0)->C 43 [agg #[slice S T c,slice U V W,slice X Y Z]] f fun v b=>v=int .u8 O/\b=f)/\(aD (cP q 0)->rD f (blk a) (aA (off a) n 4) 1 [int .u8 E])/\if aR (cP q 0) true (cP O E)=true then pA b.next 0/\∃(r:Hp),f.store b.next 0 [nS,nS,nS]=some r/\∃(a:OA) (l c:Nat) (x:OA) (y z:Nat) (A:OA) (B D:Nat),(rD r b.next 0 3 [slice a l c,slice x y z,slice A B D])/\K (tuple #[agg #[slice a l c,slice x y z,slice A B D],int .i64 8]) r else ∃(a:OA) (l c:Nat) (x:OA) (y z:Nat) (A:OA) (B D:Nat),(rD f d.next 0 3 [slice a l c,slice x y z,slice A B D])/\pA b.next 0/\∃(r:Hp),f.store b.next 0 [slice a l c,slice x y z,slice A B D]=some r/\∃(a:OA) (l c:Nat) (ab:OA) (ac ad:Nat) (ae:OA) (af ag:Nat),(rD r b.next 0 3 [slice a l c,slice ab ac ad,slice ae af ag])/\K (tuple #[agg #[slice a l c,slice ab ac ad,slice ae af ag],int .i64 0]) r else pA b.next 0/\∃(e:Hp),d.store b.next 0 [nS,nS,nS]=some e/\∃(a:OA) (l c:Nat) (u:OA) (g i:Nat) (j:OA) (k o:Nat),(rD e b.next 0 3 [slice a l c,slice u g i,slice j k o])/\K (tuple #[agg #[slice a l c,slice u g i,slice j k o],int .i64 55]) e):=by kernel_rfl
def GR:SH:=fun i=>if i=4 then [(8,3)] else []
theorem JE{p w g v c:Int}{a:OA}{l E:Nat}{D:Nat->Int}:vX C Tryz.prog Cz GR Tryz.f26 [agg (Array.mk [int .i64 p,int .i64 w]),slice a l E,agg (Array.mk ([int .u32 g]++aK .u8 32 D++[int .u64 c,int .u64 v]))] h K=(∀d,d=h.alloc [int .i64 p,int .i64 w] 23->∀q,q=d.alloc (([int .u32 g]++aK .u8 32 D++[int .u64 c,int .u64 v])) 44->∃n s,(rD q h.next 0 2 [int .i64 n,int .i64 s])/\C 20 [agg #[int .i64 n,int .i64 s]] q fun v r=>∃b,v=bool b/\if aD b then K (tuple #[pointer none,int .i64 2]) r else pA h.next 0/\∃n,(rD r h.next 1 1 [int .i64 n])/\∃(I:IT),(∃m,I [int .i64 n] m r)/\∀n m i,I [int .i64 n] m i->if bO n 32 then pA d.next 0/\(pA d.next 1/\bS n 32)/\∃j,(rD i d.next (aA 1 n 1) 1 [int .u8 j])/\if cP j 0 then K (tuple #[pointer none,int .i64 2]) i else ∃t,aI t m/\I [int .i64 (aG .i64 n 1)] t i else ∃n j,(rD i h.next 0 2 [int .i64 n,int .i64 j])/\C 49 [agg #[int .i64 n,int .i64 j]] i fun v o=>∃D n,v=tuple #[agg (Array.mk ((aK .u8 32 D))),int .i64 n]/\∀u,u=o.alloc fH 41->pA o.next 0/\∃e,u.store o.next 0 ((aK .u8 32 D))=some e/\pA d.next 0/\∃n,(rD e d.next 0 1 [int .u32 n])/\pA d.next 0/\∃f,(rD e d.next 33 1 [int .u64 f])/\(aD (aD (zK (bX n 0) (bX f 0)))->pA d.next 0)/\∃k,(aD (aD (zK (bX n 0) (bX f 0)))->rD e d.next 0 1 [int .u32 k])/\(dJ (bX k 0) (aD (aD (zK (bX n 0) (bX f 0))))->pA d.next 0)/\∃D,(dJ (bX k 0) (aD (aD (zK (bX n 0) (bX f 0))))->rD e d.next 1 32 ((aK .u8 32 D)))/\∃x,(dJ (bX k 0) (aD (aD (zK (bX n 0) (bX f 0))))->rD e o.next 0 32 ((aK .u8 32 x)))/\if aR (aD (zK (bX n 0) (bX f 0))) true (aR (bX k 0) (aD (eS ((aK .u8 32 D)) ((aK .u8 32 x)))) false)=true then K (tuple #[pointer none,int .i64 2]) e else ∃n y,(rD e h.next 0 2 [int .i64 n,int .i64 y])/\∃z D A B,(rD e d.next 0 35 (([int .u32 z]++aK .u8 32 D++[int .u64 A,int .u64 B])))/\∀d,d=e.alloc (([int .i64 n,int .i64 y,slice a l E,int .u32 z]++aK .u8 32 D++[int .u64 A,int .u64 B])) 46->K (tuple #[pointer (sB e.next),int .i64 0]) d):=by kernel_rfl
theorem JD{b:Nat}:vX C Tryz.prog Cz eE Tryz.f89 [pointer (some ⟨b,0,none⟩)] h K=(∀d,d=h.alloc [nS,aW,aP,aP,aP,aP,aP,aP,aP,aP,aP,aP,aP,aP,aP,aP,aP,aP,aP,aP,aP,aP,aP,aP,aP,aP,aP,aP,aP,aP,aP,aP,aP,aP,string (ByteArray.mk #[]),string (ByteArray.mk #[]),bool false,bool false] 205->sA b 0/\pA b 0/\pA b 3/\∃n,(rD d b 3 1 [int .u32 n])/\sA b 0/\pA b 0/\pA b 3/\∃D,(rD d b 4 32 ((aK .u8 32 D)))/\pA h.next 0/\∃e,d.store h.next 0 (([nS,int .u32 n]++aK .u8 32 D++[string (ByteArray.mk #[]),string (ByteArray.mk #[]),bool false,bool false]))=some e/\∃a l c n D s f b g,(rD e h.next 0 38 (([slice a l c,int .u32 n]++aK .u8 32 D++[string s,string f,bool b,bool g])))/\K (agg (Array.mk (([slice a l c,int .u32 n]++aK .u8 32 D++[string s,string f,bool b,bool g])))) e):=by kernel_rfl
theorem DU{aw O a1 a2:OA}{lw cw U V l1 c1 l2 c2:Nat}{no i:Int}{D:Nat->Int}{lo hi:BA}{hl W:Bool}:vX C Tryz.prog Cz eE Tryz.f113 [agg (Array.mk ([slice aw lw cw,int .u32 no]++aK .u8 32 D++[string lo,string hi,bool hl,bool W])),agg (Array.mk [slice O U V,slice a1 l1 c1,slice a2 l2 c2]),int .i64 i] h K=(∀(d:Hp),d=h.alloc (([slice aw lw cw,int .u32 no]++aK .u8 32 D++[string lo,string hi,bool hl,bool W])) 205->∀(f:Hp),f=d.alloc [slice O U V,slice a1 l1 c1,slice a2 l2 c2] 122->∀(e:Hp),e=f.alloc [nS,aW,aP,aP,aP,aP,aP,aP,aP,aP,aP,aP,aP,aP,aP,aP,aP,aP,aP,aP,aP,aP,aP,aP,aP,aP,aP,aP,aP,aP,aP,aP,aP,aP,string (ByteArray.mk #[]),string (ByteArray.mk #[]),bool false,bool false] 205->∃(a:OA) (l c:Nat) (n:Int) (D:Nat->Int) (s y:BA) (b z:Bool),(rD e h.next 0 38 (([slice a l c,int .u32 n]++aK .u8 32 D++[string s,string y,bool b,bool z])))/\∀(A:Hp),A=e.alloc [nS,aW,aP,aP,aP,aP,aP,aP,aP,aP,aP,aP,aP,aP,aP,aP,aP,aP,aP,aP,aP,aP,aP,aP,aP,aP,aP,aP,aP,aP,aP,aP,aP,aP,string (ByteArray.mk #[]),string (ByteArray.mk #[]),bool false,bool false] 205->pA e.next 0/\∃(v:Hp),A.store e.next 0 (([slice a l c,int .u32 n]++aK .u8 32 D++[string s,string y,bool b,bool z]))=some v/\pA h.next 0/\∃(a:OA) (l c:Nat),(rD v h.next 0 1 [slice a l c])/\∃(B:OA) (m n:Nat) (w:Hp),aQ Tryz.prog 66 66 nS (slice a l c) v=some (slice B m n,w)/\∀(E:Hp),E=w.alloc [int .i64 i] 3->∃(a:OA) (F G:Nat) (H:Hp),aQ Tryz.prog 66 66 (slice B m n) (slice (sB w.next) 1 1) E=some (slice a F G,H)/\pA e.next 0/\pA e.next 0/\∃(t:Hp),H.store e.next 0 [slice a F G]=some t/\pA d.next 0/\∃(a:OA) (l c:Nat),(rD t d.next 2 1 [slice a l c])/\(a.isSome/\bS i l)/\pA (blk a) (aA (off a) i 33)/\∃(n:Int),(rD t (blk a) (aA (off a) i 33) 1 [int .u32 n])/\pA e.next 0/\pA e.next 1/\∃(u:Hp),t.store e.next 1 [int .u32 n]=some u/\pA d.next 0/\∃(a:OA) (l c:Nat),(rD u d.next 2 1 [slice a l c])/\(a.isSome/\bS i l)/\pA (blk a) (aA (off a) i 33)/\∃(D:Nat->Int),(rD u (blk a) (cI (aA (off a) i 33) 1) 32 ((aK .u8 32 D)))/\pA e.next 0/\pA e.next 2/\∃(p:Hp),u.store e.next 2 ((aK .u8 32 D))=some p/\if dB i 0 then pA d.next 0/\∃(a:OA) (l c:Nat),(rD p d.next 1 1 [slice a l c])/\(a.isSome/\bS (bB .i64 i 1) l)/\∃(s:BA),(rD p (blk a) (aA (off a) (bB .i64 i 1) 1) 1 [string s])/\pA e.next 0/\pA e.next 34/\∃(r:Hp),p.store e.next 34 [string s]=some r/\pA e.next 0/\pA e.next 36/\∃(q:Hp),r.store e.next 36 [bool true]=some q/\pA d.next 0/\∃(a:OA) (l c:Nat),(rD q d.next 1 1 [slice a l c])/\if bO i (aE l) then pA d.next 0/\∃(a:OA) (l c:Nat),(rD q d.next 1 1 [slice a l c])/\(a.isSome/\bS i l)/\∃(s:BA),(rD q (blk a) (aA (off a) i 1) 1 [string s])/\pA e.next 0/\pA e.next 35/\∃(d:Hp),q.store e.next 35 [string s]=some d/\pA e.next 0/\pA e.next 37/\∃(x:Hp),d.store e.next 37 [bool true]=some x/\∃(a:OA) (l c:Nat) (n:Int) (D:Nat->Int) (s g:BA) (b j:Bool),(rD x e.next 0 38 (([slice a l c,int .u32 n]++aK .u8 32 D++[string s,string g,bool b,bool j])))/\pA f.next 0/\∃(d:Hp),x.store f.next 0 (([slice a l c,int .u32 n]++aK .u8 32 D++[string s,string g,bool b,bool j]))=some d/\∃(a:OA) (l c:Nat) (n:Int) (D:Nat->Int) (s k:BA) (b o:Bool),(rD d f.next 0 38 (([slice a l c,int .u32 n]++aK .u8 32 D++[string s,string k,bool b,bool o])))/\K (agg (Array.mk (([slice a l c,int .u32 n]++aK .u8 32 D++[string s,string k,bool b,bool o])))) d else ∃(a:OA) (l c:Nat) (n:Int) (D:Nat->Int) (s g:BA) (b j:Bool),(rD q e.next 0 38 (([slice a l c,int .u32 n]++aK .u8 32 D++[string s,string g,bool b,bool j])))/\pA f.next 0/\∃(d:Hp),q.store f.next 0 (([slice a l c,int .u32 n]++aK .u8 32 D++[string s,string g,bool b,bool j]))=some d/\∃(a:OA) (l c:Nat) (n:Int) (D:Nat->Int) (s k:BA) (b o:Bool),(rD d f.next 0 38 (([slice a l c,int .u32 n]++aK .u8 32 D++[string s,string k,bool b,bool o])))/\K (agg (Array.mk (([slice a l c,int .u32 n]++aK .u8 32 D++[string s,string k,bool b,bool o])))) d else pA d.next 0/\∃(a:OA) (l c:Nat),(rD p d.next 1 1 [slice a l c])/\if bO i (aE l) then pA d.next 0/\∃(a:OA) (l c:Nat),(rD p d.next 1 1 [slice a l c])/\(a.isSome/\bS i l)/\∃(s:BA),(rD p (blk a) (aA (off a) i 1) 1 [string s])/\pA e.next 0/\pA e.next 35/\∃(d:Hp),p.store e.next 35 [string s]=some d/\pA e.next 0/\pA e.next 37/\∃(r:Hp),d.store e.next 37 [bool true]=some r/\∃(a:OA) (l c:Nat) (n:Int) (D:Nat->Int) (s g:BA) (b j:Bool),(rD r e.next 0 38 (([slice a l c,int .u32 n]++aK .u8 32 D++[string s,string g,bool b,bool j])))/\pA f.next 0/\∃(d:Hp),r.store f.next 0 (([slice a l c,int .u32 n]++aK .u8 32 D++[string s,string g,bool b,bool j]))=some d/\∃(a:OA) (l c:Nat) (n:Int) (D:Nat->Int) (s k:BA) (b o:Bool),(rD d f.next 0 38 (([slice a l c,int .u32 n]++aK .u8 32 D++[string s,string k,bool b,bool o])))/\K (agg (Array.mk (([slice a l c,int .u32 n]++aK .u8 32 D++[string s,string k,bool b,bool o])))) d else ∃(a:OA) (l c:Nat) (n:Int) (D:Nat->Int) (s g:BA) (b j:Bool),(rD p e.next 0 38 (([slice a l c,int .u32 n]++aK .u8 32 D++[string s,string g,bool b,bool j])))/\pA f.next 0/\∃(d:Hp),p.store f.next 0 (([slice a l c,int .u32 n]++aK .u8 32 D++[string s,string g,bool b,bool j]))=some d/\∃(a:OA) (l c:Nat) (n:Int) (D:Nat->Int) (s k:BA) (b o:Bool),(rD d f.next 0 38 (([slice a l c,int .u32 n]++aK .u8 32 D++[string s,string k,bool b,bool o])))/\K (agg (Array.mk (([slice a l c,int .u32 n]++aK .u8 32 D++[string s,string k,bool b,bool o])))) d):=by kernel_rfl
def AP:SH:=fun i=>if i=2 then [(5,3)] else if i=8 then [(7,3)] else []
theorem Bl{aw E a1 a2:OA}{lw cw G O l1 c1 l2 c2:Nat}{no:Int}{D:Nat->Int}{lo hi:BA}{hl U:Bool}:vX C Tryz.prog Cz AP Tryz.f169 [agg (Array.mk ([slice aw lw cw,int .u32 no]++aK .u8 32 D++[string lo,string hi,bool hl,bool U])),agg (Array.mk [slice E G O,slice a1 l1 c1,slice a2 l2 c2])] h K=(∀g,g=h.alloc (([slice aw lw cw,int .u32 no]++aK .u8 32 D++[string lo,string hi,bool hl,bool U])) 205->∀o,o=g.alloc [slice E G O,slice a1 l1 c1,slice a2 l2 c2] 122->∃(I:IT),(∃m,I [int .i64 0] m o)/\∀n m i,I [int .i64 n] m i->pA g.next 0/\∃a l c,(rD i g.next 0 1 [slice a l c])/\if bO n (aE l) then pA g.next 0/\∃a l c,(rD i g.next 0 1 [slice a l c])/\(a.isSome/\bS n l)/\pA (blk a) (aA (off a) n 2)/\∃s,(rD i (blk a) (aA (off a) n 2) 1 [string s])/\pA h.next 0/\∃b,(rD i h.next 36 1 [bool b])/\(b->pA h.next 0)/\∃d,(b->rD i h.next 34 1 [string d])/\(aD (aR b (strLt s d) false)->pA h.next 0)/\∃e,(aD (aR b (strLt s d) false)->rD i h.next 37 1 [bool e])/\(dJ e (aD (aR b (strLt s d) false))->pA h.next 0)/\∃j,(dJ e (aD (aR b (strLt s d) false))->rD i h.next 35 1 [string j])/\if aR (aR b (strLt s d) false) true (aR e (aD (strLt s j)) false)=true then K (bool false) i else ∃k,aI k m/\I [int .i64 (aG .i64 n 1)] k i else ∃(I:IT),(∃m,I [int .i64 0] m i)/\∀n m f,I [int .i64 n] m f->pA g.next 0/\∃a l c,(rD f g.next 1 1 [slice a l c])/\if bO n (aE l) then pA h.next 0/\∃b,(rD f h.next 36 1 [bool b])/\(b->pA g.next 0)/\∃a l c,(b->rD f g.next 1 1 [slice a l c])/\(b->a.isSome/\bS n l)/\∃s,(b->rD f (blk a) (aA (off a) n 1) 1 [string s])/\(b->pA h.next 0)/\∃d,(b->rD f h.next 34 1 [string d])/\(aD (aR b (fQ s d) false)->pA h.next 0)/\∃e,(aD (aR b (fQ s d) false)->rD f h.next 37 1 [bool e])/\(dJ e (aD (aR b (fQ s d) false))->pA g.next 0)/\∃a l c,(dJ e (aD (aR b (fQ s d) false))->rD f g.next 1 1 [slice a l c])/\(dJ e (aD (aR b (fQ s d) false))->a.isSome/\bS n l)/\∃j,(dJ e (aD (aR b (fQ s d) false))->rD f (blk a) (aA (off a) n 1) 1 [string j])/\(dJ e (aD (aR b (fQ s d) false))->pA h.next 0)/\∃p,(dJ e (aD (aR b (fQ s d) false))->rD f h.next 35 1 [string p])/\if aR (aR b (fQ s d) false) true (aR e (aD (strLt j p)) false)=true then K (bool false) f else ∃k,aI k m/\I [int .i64 (aG .i64 n 1)] k f else K (bool true) f):=by kernel_rfl
theorem DR{p w:Int}{aw O a1 a2:OA}{lw cw l0 c0 l1 c1 l2 c2:Nat}{no:Int}{D:Nat->Int}{lo hi:BA}{hl hh:Bool}:vX C Tryz.prog Cz eE Tryz.f143 [agg (Array.mk ([slice aw lw cw,int .u32 no]++aK .u8 32 D++[string lo,string hi,bool hl,bool hh])),agg (Array.mk [int .i64 p,int .i64 w]),agg (Array.mk [slice O l0 c0,slice a1 l1 c1,slice a2 l2 c2])] h K=(∀(d:Hp),d=h.alloc (([slice aw lw cw,int .u32 no]++aK .u8 32 D++[string lo,string hi,bool hl,bool hh])) 205->∀(g:Hp),g=d.alloc [int .i64 p,int .i64 w] 23->∀(i:Hp),i=g.alloc [slice O l0 c0,slice a1 l1 c1,slice a2 l2 c2] 122->∃(n j:Int),(rD i d.next 0 2 [int .i64 n,int .i64 j])/\∃(a:OA) (l c:Nat) (k:OA) (m o:Nat) (q:OA) (r t:Nat),(rD i g.next 0 3 [slice a l c,slice k m o,slice q r t])/\C 50 [agg #[int .i64 n,int .i64 j],agg #[slice a l c,slice k m o,slice q r t]] i fun v d=>∃(D:Nat->Int) (n:Int),v=tuple #[agg (Array.mk ((aK .u8 32 D))),int .i64 n]/\∀(u:Hp),u=d.alloc fH 41->pA d.next 0/\∃(e:Hp),u.store d.next 0 ((aK .u8 32 D))=some e/\∃(D:Nat->Int),(bX n 0->rD e d.next 0 32 ((aK .u8 32 D)))/\(bX n 0->pA h.next 0)/\∃(f:Nat->Int),(bX n 0->rD e h.next 2 32 ((aK .u8 32 f)))/\∃(a:OA) (l c:Nat) (x:OA) (y z:Nat) (A:OA) (B E:Nat),(aR (bX n 0) (eS ((aK .u8 32 D)) ((aK .u8 32 f))) false=true->rD e g.next 0 3 [slice a l c,slice x y z,slice A B E])/\∃(b:Bool),(aR (bX n 0) (eS ((aK .u8 32 D)) ((aK .u8 32 f))) false=true->C 70 [agg #[slice a l c,slice x y z,slice A B E]] e fun v d=>v=bool b/\d=e)/\(dJ (aD (aD b)) (aR (bX n 0) (eS ((aK .u8 32 D)) ((aK .u8 32 f))) false)->pA g.next 0)/\∃(a:OA) (l c:Nat),(dJ (aD (aD b)) (aR (bX n 0) (eS ((aK .u8 32 D)) ((aK .u8 32 f))) false)->rD e g.next 0 1 [slice a l c])/\∃(a:OA) (F c:Nat) (G:Int) (H:Nat->Int) (s L:BA) (M N:Bool),(aR (aR (bX n 0) (eS ((aK .u8 32 D)) ((aK .u8 32 f))) false) (aR (aD b) true (dB (aE l) 0)) false=true->rD e h.next 0 38 (([slice a F c,int .u32 G]++aK .u8 32 H++[string s,string L,bool M,bool N])))/\∃(P:OA) (Q R:Nat) (S:OA) (T U:Nat) (V:OA) (W X:Nat),(aR (aR (bX n 0) (eS ((aK .u8 32 D)) ((aK .u8 32 f))) false) (aR (aD b) true (dB (aE l) 0)) false=true->rD e g.next 0 3 [slice P Q R,slice S T U,slice V W X])/\∃(Y:Bool),(aR (aR (bX n 0) (eS ((aK .u8 32 D)) ((aK .u8 32 f))) false) (aR (aD b) true (dB (aE l) 0)) false=true->C 169 [agg (Array.mk (([slice a F c,int .u32 G]++aK .u8 32 H++[string s,string L,bool M,bool N]))),agg #[slice P Q R,slice S T U,slice V W X]] e fun v d=>v=bool Y/\d=e)/\K (bool (aR (aR (aR (bX n 0) (eS ((aK .u8 32 D)) ((aK .u8 32 f))) false) (aR (aD b) true (dB (aE l) 0)) false) Y false)) e):=by kernel_rfl
theorem JF{b:Nat}{aw:OA}{lw cw:Nat}{no:Int}{D:Nat->Int}{lo hi:BA}{hl O:Bool}:vX C Tryz.prog Cz eE Tryz.f112 [pointer (some ⟨b,0,none⟩),agg (Array.mk ([slice aw lw cw,int .u32 no]++aK .u8 32 D++[string lo,string hi,bool hl,bool O]))] h K=(∀(d:Hp),d=h.alloc (([slice aw lw cw,int .u32 no]++aK .u8 32 D++[string lo,string hi,bool hl,bool O])) 205->∀(f:Hp),f=d.alloc [nS,nS,nS] 122->pA h.next 0/\∃(a:OA) (l c:Nat),(rD f h.next 0 1 [slice a l c])/\if iE (aE l) 33 then pA d.next 0/\∃(e:Hp),f.store d.next 0 [nS,nS,nS]=some e/\∃(a:OA) (l c:Nat) (k:OA) (m o:Nat) (p:OA) (q r:Nat),(rD e d.next 0 3 [slice a l c,slice k m o,slice p q r])/\K (tuple #[agg #[slice a l c,slice k m o,slice p q r],int .i64 8]) e else ∀(e:Hp),e=f.alloc [nS,nS,nS] 122->sA b 0/\pA b 0/\∃(n L:Int),(rD e b 0 2 [int .i64 n,int .i64 L])/\sA b 0/\pA b 0/\∃(a:OA) (l c:Nat),(rD e b 2 1 [slice a l c])/\pA h.next 0/\∃(M:Int),(rD e h.next 1 1 [int .u32 M])/\C 142 [agg #[int .i64 n,int .i64 L],slice a l c,int .u32 M] e fun v ac=>∃(a:OA) (l c:Nat) (k:OA) (m o:Nat) (p:OA) (q r:Nat) (n:Int),v=tuple #[agg #[slice a l c,slice k m o,slice p q r],int .i64 n]/\pA f.next 0/\∃(j:Hp),ac.store f.next 0 [slice a l c,slice k m o,slice p q r]=some j/\if cP n 0 then pA d.next 0/\∃(g:Hp),j.store d.next 0 [nS,nS,nS]=some g/\∃(a:OA) (l c:Nat) (t:OA) (u w:Nat) (x:OA) (y z:Nat),(rD g d.next 0 3 [slice a l c,slice t u w,slice x y z])/\K (tuple #[agg #[slice a l c,slice t u w,slice x y z],int .i64 n]) g else ∃(a:OA) (l c:Nat) (n:Int) (D:Nat->Int) (s N:BA) (P Q:Bool),(rD j h.next 0 38 (([slice a l c,int .u32 n]++aK .u8 32 D++[string s,string N,bool P,bool Q])))/\sA b 0/\pA b 0/\∃(R S:Int),(rD j b 0 2 [int .i64 R,int .i64 S])/\∃(t:OA) (u w:Nat) (x:OA) (y z:Nat) (T:OA) (U V:Nat),(rD j f.next 0 3 [slice t u w,slice x y z,slice T U V])/\C 143 [agg (Array.mk (([slice a l c,int .u32 n]++aK .u8 32 D++[string s,string N,bool P,bool Q]))),agg #[int .i64 R,int .i64 S],agg #[slice t u w,slice x y z,slice T U V]] j fun v g=>∃(b:Bool),v=bool b/\if aD b then pA d.next 0/\∃(i:Hp),g.store d.next 0 [nS,nS,nS]=some i/\∃(a:OA) (l c:Nat) (A:OA) (B E:Nat) (F:OA) (G H:Nat),(rD i d.next 0 3 [slice a l c,slice A B E,slice F G H])/\K (tuple #[agg #[slice a l c,slice A B E,slice F G H],int .i64 8]) i else ∃(a:OA) (l c:Nat) (A:OA) (B E:Nat) (F:OA) (G H:Nat),(rD g f.next 0 3 [slice a l c,slice A B E,slice F G H])/\pA d.next 0/\∃(i:Hp),g.store d.next 0 [slice a l c,slice A B E,slice F G H]=some i/\∃(a:OA) (l c:Nat) (W:OA) (X Y:Nat) (Z:OA) (aa ab:Nat),(rD i d.next 0 3 [slice a l c,slice W X Y,slice Z aa ab])/\K (tuple #[agg #[slice a l c,slice W X Y,slice Z aa ab],int .i64 0]) i):=by kernel_rfl
theorem Fl{b:Nat}:vX C Tryz.prog Cz eE Tryz.f56 [pointer (some ⟨b,0,none⟩)] h K=(sA b 0/\pA b 0/\pA b 3/\∃n,(rD h b 3 1 [int .u32 n])/\if bX n 0 then K (tuple #[nS,int .i64 0]) h else C 89 [pointer (sB b)] h fun v d=>∃a l c n D s e f g,v=agg (Array.mk (([slice a l c,int .u32 n]++aK .u8 32 D++[string s,string e,bool f,bool g])))/\C 88 [pointer (sB b),nS,agg (Array.mk (([slice a l c,int .u32 n]++aK .u8 32 D++[string s,string e,bool f,bool g])))] d fun v d=>∃a l c n,v=tuple #[slice a l c,int .i64 n]/\K (tuple #[slice a l c,int .i64 n]) d):=by kernel_rfl
def Dk:SH:=fun i=>if i=6 then [(1,156),(10,3)] else []
theorem xV{b:Nat}{a aw:OA}{l c lw cw:Nat}{no:Int}{D:Nat->Int}{lo hi:BA}{hl O:Bool}:vX C Tryz.prog Cz Dk Tryz.f88 [pointer (some ⟨b,0,none⟩),slice a l c,agg (Array.mk ([slice aw lw cw,int .u32 no]++aK .u8 32 D++[string lo,string hi,bool hl,bool O]))] h K=(∀(d:Hp),d=h.alloc (([slice aw lw cw,int .u32 no]++aK .u8 32 D++[string lo,string hi,bool hl,bool O])) 205->∃(i:OA) (j k:Nat) (n:Int) (D:Nat->Int) (s o:BA) (p q:Bool),(rD d h.next 0 38 (([slice i j k,int .u32 n]++aK .u8 32 D++[string s,string o,bool p,bool q])))/\C 112 [pointer (sB b),agg (Array.mk (([slice i j k,int .u32 n]++aK .u8 32 D++[string s,string o,bool p,bool q])))] d fun v d=>∃(r:OA) (t u:Nat) (w:OA) (x y:Nat) (z:OA) (A B:Nat) (n:Int),v=tuple #[agg #[slice r t u,slice w x y,slice z A B],int .i64 n]/\∀(E:Hp),E=d.alloc [nS,nS,nS] 122->pA d.next 0/\∃(e:Hp),E.store d.next 0 [slice r t u,slice w x y,slice z A B]=some e/\if cP n 0 then K (tuple #[slice a l c,int .i64 n]) e else pA h.next 0/\∃(F:OA) (G H:Nat),(rD e h.next 0 1 [slice F G H])/\pA h.next 0/\∃(n:Int),(rD e h.next 1 1 [int .u32 n])/\∃(L:OA) (M N:Nat) (P:OA) (Q R:Nat) (S:OA) (T U:Nat),(rD e d.next 0 3 [slice L M N,slice P Q R,slice S T U])/\∀(V:Hp),V=e.alloc [slice F G H,int .u32 n,slice L M N,slice P Q R,slice S T U] 155->∃(W:OA) (m n:Nat) (X:Hp),aQ Tryz.prog 156 156 (slice a l c) (slice (sB e.next) 1 1) V=some (slice W m n,X)/\∃(I:IT),(∃(a0:Nat),I [slice W m n,int .i64 0] a0 X)/\∀(a:OA) (l c:Nat) (n:Int) (m:Nat) (f:Hp),I [slice a l c,int .i64 n] m f->pA d.next 0/\∃(a1:OA) (Y a2:Nat),(rD f d.next 2 1 [slice a1 Y a2])/\if bO n (aE Y) then ∃(Z:OA) (aa ab:Nat) (ac:Int) (D:Nat->Int) (s ad:BA) (ae af:Bool),(rD f h.next 0 38 (([slice Z aa ab,int .u32 ac]++aK .u8 32 D++[string s,string ad,bool ae,bool af])))/\∃(ag:OA) (ah ai:Nat) (aj:OA) (ak al:Nat) (am:OA) (an ao:Nat),(rD f d.next 0 3 [slice ag ah ai,slice aj ak al,slice am an ao])/\C 113 [agg (Array.mk (([slice Z aa ab,int .u32 ac]++aK .u8 32 D++[string s,string ad,bool ae,bool af]))),agg #[slice ag ah ai,slice aj ak al,slice am an ao],int .i64 n] f fun v d=>∃(ap:OA) (aq ar:Nat) (au:Int) (D:Nat->Int) (s av:BA) (ax ay:Bool),v=agg (Array.mk (([slice ap aq ar,int .u32 au]++aK .u8 32 D++[string s,string av,bool ax,bool ay])))/\C 88 [pointer (sB b),slice a l c,agg (Array.mk (([slice ap aq ar,int .u32 au]++aK .u8 32 D++[string s,string av,bool ax,bool ay])))] d fun v d=>∃(a:OA) (l c:Nat) (g:Int),v=tuple #[slice a l c,int .i64 g]/\if cP g 0 then K (tuple #[slice a l c,int .i64 g]) d else ∃(az:Nat),aI az m/\I [slice a l c,int .i64 (aG .i64 n 1)] az d else K (tuple #[slice a l c,int .i64 0]) f):=by kernel_rfl
def CA:SH:=fun i=>if i=6 then [(6,93),(7,3)] else []
theorem DN{b:Nat}:vX C Tryz.prog Cz CA Tryz.f29 [pointer (some ⟨b,0,none⟩)] h K=(C 56 [pointer (sB b)] h fun v d=>∃a l c n,v=tuple #[slice a l c,int .i64 n]/\if cP n 0 then K (tuple #[nS,int .i64 n]) d else ∃(I:IT),(∃m,I [nS,int .i64 0] m d)/\∀f g c n m h,I [slice f g c,int .i64 n] m h->if bO n (aE l) then ∀d,d=h.alloc fH 41->sA b 0/\pA b 0/\∃i j,(rD d b 0 2 [int .i64 i,int .i64 j])/\(a.isSome/\bS n l)/\pA (blk a) (aA (off a) n 5)/\∃k o p q r t u w x,(rD d (blk a) (cI (aA (off a) n 5) 2) 3 [slice k o p,slice q r t,slice u w x])/\C 50 [agg #[int .i64 i,int .i64 j],agg #[slice k o p,slice q r t,slice u w x]] d fun v d=>∃D T,v=tuple #[agg (Array.mk ((aK .u8 32 D))),int .i64 T]/\pA h.next 0/\∃e,d.store h.next 0 ((aK .u8 32 D))=some e/\sA b 0/\pA b 0/\∃y z,(rD e b 0 2 [int .i64 y,int .i64 z])/\(a.isSome/\bS n l)/\pA (blk a) (aA (off a) n 5)/\∃A l B E F G H L M,(rD e (blk a) (cI (aA (off a) n 5) 2) 3 [slice A l B,slice E F G,slice H L M])/\C 57 [agg #[int .i64 y,int .i64 z],agg #[slice A l B,slice E F G,slice H L M]] e fun v d=>∃s U,v=tuple #[string s,int .i64 U]/\∃D,(rD d h.next 0 32 ((aK .u8 32 D)))/\∀N,N=d.alloc ((aK .u8 32 D++[string s])) 98->∃a P Q R,aQ Tryz.prog 93 93 (slice f g c) (slice (sB d.next) 1 1) N=some (slice a P Q,R)/\∃S,aI S m/\I [slice a P Q,int .i64 (aG .i64 n 1)] S R else K (tuple #[slice f g c,int .i64 0]) h):=by kernel_rfl
def GO:SH:=fun i=>if i=2 then [(5,3)] else []
theorem Iw{a:OA}{l c:Nat}{D:Nat->Int}:vX C Tryz.prog Cz GO Tryz.f30 [slice a l c,agg (Array.mk (aK .u8 32 D))] h K=(∀d,d=h.alloc ((aK .u8 32 D)) 41->∃(I:IT),(∃m,I [int .i64 0] m d)/\∀n m b,I [int .i64 n] m b->if bO n (aE l) then(a.isSome/\bS n l)/\pA (blk a) (aA (off a) n 33)/\∃D,(rD b (blk a) (aA (off a) n 33) 32 ((aK .u8 32 D)))/\∃e,(rD b h.next 0 32 ((aK .u8 32 e)))/\if eS ((aK .u8 32 D)) ((aK .u8 32 e))=true then K (bool true) b else ∃f,aI f m/\I [int .i64 (aG .i64 n 1)] f b else K (bool false) b):=by kernel_rfl
def AO:SH:=fun i=>if i=9 then [(9,3),(10,3)] else if i=14 then [(9,3),(11,3)] else []
theorem Bk{a b:Nat}:vX C Tryz.prog Cz AO Tryz.f10 [pointer (some ⟨a,0,none⟩),pointer (some ⟨b,0,none⟩)] h K=(C 29 [pointer (sB a)] h fun v d=>∃a l c n,v=tuple #[slice a l c,int .i64 n]/\if cP n 0 then K (tuple #[int .i64 0,int .i64 n]) d else C 29 [pointer (sB b)] d fun v d=>∃f j k n,v=tuple #[slice f j k,int .i64 n]/\if cP n 0 then K (tuple #[int .i64 0,int .i64 n]) d else ∃(I:IT),(∃m,I [int .i64 0,int .i64 0] m d)/\∀n g m h,I [int .i64 n,int .i64 g] m h->if bO g (aE l) then(a.isSome/\bS g l)/\pA (blk a) (aA (off a) g 33)/\∃D,(rD h (blk a) (aA (off a) g 33) 32 ((aK .u8 32 D)))/\C 30 [slice f j k,agg (Array.mk ((aK .u8 32 D)))] h fun v d=>∃b,v=bool b/\if aD b then ∃e,aI e m/\I [int .i64 (aG .i64 n 1),int .i64 (aG .i64 g 1)] e d else ∃e,aI e m/\I [int .i64 n,int .i64 (aG .i64 g 1)] e d else ∃(I:IT),(∃m,I [int .i64 n,int .i64 0] m h)/\∀n i m h,I [int .i64 n,int .i64 i] m h->if bO i (aE j) then(f.isSome/\bS i j)/\pA (blk f) (aA (off f) i 33)/\∃D,(rD h (blk f) (aA (off f) i 33) 32 ((aK .u8 32 D)))/\C 30 [slice a l c,agg (Array.mk ((aK .u8 32 D)))] h fun v d=>∃b,v=bool b/\if aD b then ∃e,aI e m/\I [int .i64 (aG .i64 n 1),int .i64 (aG .i64 i 1)] e d else ∃e,aI e m/\I [int .i64 n,int .i64 (aG .i64 i 1)] e d else K (tuple #[int .i64 n,int .i64 0]) h):=by kernel_rfl
variable {C:CT} {h:Hp} {K:KT}
def Hq:FuncId->Bool:=fun f=>f==86||f==114||f==47||f==45||f==46||f==75||f==209||f==60||f==53||f==52||f==27||f==20||f==6
def Bw:SH:=fun i=>if i=5 then [(21,3)] else []
theorem DJ{p w:Int}{a:OA}{l c:Nat}:vX C Tryz.prog Hq Bw Tryz.f22 [agg (Array.mk [int .i64 p,int .i64 w]),slice a l c] h K=(∀(d:Hp),d=h.alloc [int .i64 p,int .i64 w] 23->∃(n o:Int),(rD d h.next 0 2 [int .i64 n,int .i64 o])/\C 45 [agg #[int .i64 n,int .i64 o]] d fun v d=>∃(b:Bool),v=bool b/\if aD b then K (tuple #[pointer none,int .i64 2]) d else ∃(n q:Int),(rD d h.next 0 2 [int .i64 n,int .i64 q])/\∀(f:Hp),f=d.newOb (Ob.map [] 0)->∀(r:Hp),r=f.alloc [int .i64 n,int .i64 q,.map (some d.next)] 136->∃(I:IT),(∃(m:Nat),I [int .i64 0] m r)/\∀(n:Int) (m:Nat) (e:Hp),I [int .i64 n] m e->if bO n (aE l) then(a.isSome/\bS n l)/\∃(t u x:Int) (s:BA),(rD e (blk a) (aA (off a) n 4) 4 [int .u8 t,int .u32 u,int .u64 x,string s])/\∀(d:Hp),d=e.alloc [aP,aW,mR,string (ByteArray.mk #[])] 133->pA e.next 0/\∃(j:Hp),d.store e.next 0 [int .u8 t,int .u32 u,int .u64 x,string s]=some j/\∃(y z:Int),(rD j h.next 0 2 [int .i64 y,int .i64 z])/\∃(A B D:Int) (s:BA),(rD j e.next 0 4 [int .u8 A,int .u32 B,int .u64 D,string s])/\C 46 [agg #[int .i64 y,int .i64 z],agg #[int .u8 A,int .u32 B,int .u64 D,string s]] j fun v d=>∃(k:Int),v=int .i64 k/\if cP k 0 then K (tuple #[pointer none,int .i64 k]) d else ∀(i:Hp),i=d.alloc [aP,aW,mR,string (ByteArray.mk #[])] 133->sA f.next 0/\pA f.next 0/\∃(a:ON),(rD i f.next 2 1 [.map a])/\pA e.next 0/\∃(E:Int),(rD i e.next 1 1 [int .u32 E])/\∃(F G H:Int) (s:BA) (b:Bool),dY Tryz.prog 134 (.map a) (int .u32 E) true i=some (tuple #[agg #[int .u8 F,int .u32 G,int .u64 H,string s],bool b])/\pA d.next 0/\∃(g:Hp),i.store d.next 0 [int .u8 F,int .u32 G,int .u64 H,string s]=some g/\if b then K (tuple #[pointer none,int .i64 56]) g else sA f.next 0/\pA f.next 0/\∃(a:ON),(rD g f.next 2 1 [.map a])/\pA e.next 0/\∃(L:Int),(rD g e.next 1 1 [int .u32 L])/\∃(M N P:Int) (s:BA),(rD g e.next 0 4 [int .u8 M,int .u32 N,int .u64 P,string s])/\∃(d:Hp),iS Tryz.prog 134 (.map a) (int .u32 L) (agg #[int .u8 M,int .u32 N,int .u64 P,string s]) g=some d/\∃(Q:Nat),aI Q m/\I [int .i64 (aG .i64 n 1)] Q d else K (tuple #[pointer (sB f.next),int .i64 0]) e):=by kernel_rfl
theorem Bi{b:Nat}:vX C Tryz.prog Hq eE Tryz.f209 [pointer (some ⟨b,0,none⟩)] h K=((aD (isN (sB b))->sA b 0)/\(aD (isN (sB b))->pA b 0)/\∃a,(aD (isN (sB b))->rD h b 2 1 [.map a])/\K (bool (aR (isN (sB b)) true (Sa a))) h):=by kernel_rfl
theorem Bh{b:Nat}{no:Int}:vX C Tryz.prog Hq eE Tryz.f234 [pointer (some ⟨b,0,none⟩),int .u32 no] h K=(∀c,c=h.alloc [aP,aW,mR,string (ByteArray.mk #[])] 133->C 209 [pointer (sB b)] c fun v c=>∃k,v=bool k/\if k then pA h.next 0/\∃d,c.store h.next 0 [aP,aW,mR,string (ByteArray.mk #[])]=some d/\∃n e f s,(rD d h.next 0 4 [int .u8 n,int .u32 e,int .u64 f,string s])/\K (tuple #[agg #[int .u8 n,int .u32 e,int .u64 f,string s],int .i64 1]) d else sA b 0/\pA b 0/\∃a,(rD c b 2 1 [.map a])/\∃n e f s b,dY Tryz.prog 134 (.map a) (int .u32 no) true c=some (tuple #[agg #[int .u8 n,int .u32 e,int .u64 f,string s],bool b])/\∀d,d=c.alloc [aP,aW,mR,string (ByteArray.mk #[])] 133->pA c.next 0/\∃j,d.store c.next 0 [int .u8 n,int .u32 e,int .u64 f,string s]=some j/\if aD b then pA h.next 0/\∃c,j.store h.next 0 [aP,aW,mR,string (ByteArray.mk #[])]=some c/\∃n g i s,(rD c h.next 0 4 [int .u8 n,int .u32 g,int .u64 i,string s])/\K (tuple #[agg #[int .u8 n,int .u32 g,int .u64 i,string s],int .i64 55]) c else ∃n g i s,(rD j c.next 0 4 [int .u8 n,int .u32 g,int .u64 i,string s])/\pA h.next 0/\∃c,j.store h.next 0 [int .u8 n,int .u32 g,int .u64 i,string s]=some c/\∃n l m s,(rD c h.next 0 4 [int .u8 n,int .u32 l,int .u64 m,string s])/\K (tuple #[agg #[int .u8 n,int .u32 l,int .u64 m,string s],int .i64 0]) c):=by kernel_rfl
def AQ:SH:=fun i=>if i=2000077 then [(0,73)] else []
theorem Bo{b:Nat}{no:Int}:vX C Tryz.prog Hq AQ Tryz.f207 [pointer (some ⟨b,0,none⟩),int .u32 no] h K=(∀c,c=h.alloc [aP,aW,mR,string (ByteArray.mk #[])] 133->sA b 0/\pA b 0/\∃n,(rD c b 1 1 [int .i64 n])/\sA b 0/\pA b 0/\pA b 1/\∃d,c.store b 1 [int .i64 (aG .i64 n 1)]=some d/\sA b 0/\pA b 0/\∃a,(rD d b 0 1 [.iface 73 (pointer a)])/\C 234 [pointer a,int .u32 no] d fun v c=>∃n f g s i,v=tuple #[agg #[int .u8 n,int .u32 f,int .u64 g,string s],int .i64 i]/\pA h.next 0/\∃e,c.store h.next 0 [int .u8 n,int .u32 f,int .u64 g,string s]=some e/\∃n j k s,(rD e h.next 0 4 [int .u8 n,int .u32 j,int .u64 k,string s])/\K (tuple #[agg #[int .u8 n,int .u32 j,int .u64 k,string s],int .i64 i]) e):=by kernel_rfl
theorem OM{p w:Int}{T:Nat}{a:OA}:vX C Tryz.prog Hq eE Tryz.f23 [agg (Array.mk [int .i64 p,int .i64 w]),.iface T (pointer a)] h K=(∀c,c=h.alloc [int .i64 p,int .i64 w] 23->∃n d,(rD c h.next 0 2 [int .i64 n,int .i64 d])/\C 47 [agg #[int .i64 n,int .i64 d]] c fun v c=>∃b,v=bool b/\if aD b then K (tuple #[.nilIface,int .i64 2]) c else qC (.iface T (pointer a))/\if iR (.iface T (pointer a))=true then K (tuple #[.nilIface,int .i64 1]) c else ∃n e,(rD c h.next 0 2 [int .i64 n,int .i64 e])/\∀f,f=c.alloc [int .i64 n,int .i64 e,.iface T (pointer a)] 141->K (tuple #[.iface 139 (pointer (sB c.next)),int .i64 0]) f):=by kernel_rfl
def AN:SH:=fun i=>if i=2000077 then [(0,32)] else []
theorem Bj{b:Nat}{no:Int}:vX C Tryz.prog Hq AN Tryz.f210 [pointer (some ⟨b,0,none⟩),int .u32 no] h K=(∀(d:Hp),d=h.alloc [nS,nS,nS] 122->sA b 0/\pA b 0/\∃(a:OA),(rD d b 2 1 [.iface 32 (pointer a)])/\C 207 [pointer a,int .u32 no] d fun v d=>∃(n A B:Int) (s:BA) (y:Int),v=tuple #[agg #[int .u8 n,int .u32 A,int .u64 B,string s],int .i64 y]/\∀(D:Hp),D=d.alloc [aP,aW,mR,string (ByteArray.mk #[])] 133->pA d.next 0/\∃(e:Hp),D.store d.next 0 [int .u8 n,int .u32 A,int .u64 B,string s]=some e/\if cP y 0 then pA h.next 0/\∃(d:Hp),e.store h.next 0 [nS,nS,nS]=some d/\∃(a:OA) (l c:Nat) (g:OA) (i j:Nat) (k:OA) (m o:Nat),(rD d h.next 0 3 [slice a l c,slice g i j,slice k m o])/\K (tuple #[agg #[slice a l c,slice g i j,slice k m o],int .i64 y]) d else pA d.next 0/\∃(n:Int),(rD e d.next 0 1 [int .u8 n])/\(cP n 1->pA d.next 0)/\∃(E:Int),(cP n 1->rD e d.next 0 1 [int .u8 E])/\if aR (cP n 1) (cP E 2) false=true then pA h.next 0/\∃(d:Hp),e.store h.next 0 [nS,nS,nS]=some d/\∃(a:OA) (l c:Nat) (g:OA) (i j:Nat) (k:OA) (m o:Nat),(rD d h.next 0 3 [slice a l c,slice g i j,slice k m o])/\K (tuple #[agg #[slice a l c,slice g i j,slice k m o],int .i64 8]) d else ∀(x:Hp),x=e.alloc [nS,nS,nS] 122->sA b 0/\pA b 0/\∃(n F:Int),(rD x b 0 2 [int .i64 n,int .i64 F])/\pA d.next 0/\∃(s:BA),(rD x d.next 3 1 [string s])/\C 211 [agg #[int .i64 n,int .i64 F],string s] x fun v W=>∃(a:OA) (l c:Nat) (g:OA) (i j:Nat) (k:OA) (m o:Nat) (n:Int),v=tuple #[agg #[slice a l c,slice g i j,slice k m o],int .i64 n]/\pA e.next 0/\∃(f:Hp),W.store e.next 0 [slice a l c,slice g i j,slice k m o]=some f/\∃(a:OA) (l c:Nat) (G:OA) (H L:Nat) (M:OA) (N P:Nat),(aD (cP n 0)->rD f e.next 0 3 [slice a l c,slice G H L,slice M N P])/\(aD (cP n 0)->pA d.next 0)/\∃(z:Int),(aD (cP n 0)->rD f d.next 0 1 [int .u8 z])/\∃(b:Bool),(aD (cP n 0)->C 114 [agg #[slice a l c,slice G H L,slice M N P]] f fun v d=>v=bool b/\d=f)/\(aD (cP n 0)->rD f d.next 0 1 [int .u8 z])/\if aR (cP n 0) true (aD (zK b (bX z 1)))=true then pA h.next 0/\∃(d:Hp),f.store h.next 0 [nS,nS,nS]=some d/\∃(a:OA) (l c:Nat) (p:OA) (q r:Nat) (t:OA) (u w:Nat),(rD d h.next 0 3 [slice a l c,slice p q r,slice t u w])/\K (tuple #[agg #[slice a l c,slice p q r,slice t u w],int .i64 8]) d else ∃(a:OA) (l c:Nat) (p:OA) (q r:Nat) (t:OA) (u w:Nat),(rD f e.next 0 3 [slice a l c,slice p q r,slice t u w])/\pA h.next 0/\∃(d:Hp),f.store h.next 0 [slice a l c,slice p q r,slice t u w]=some d/\∃(a:OA) (l c:Nat) (Q:OA) (R S:Nat) (T:OA) (U V:Nat),(rD d h.next 0 3 [slice a l c,slice Q R S,slice T U V])/\K (tuple #[agg #[slice a l c,slice Q R S,slice T U V],int .i64 0]) d):=by kernel_rfl
theorem Ij{b:Nat}:vX C Tryz.prog Hq eE Tryz.f53 [pointer (some ⟨b,0,none⟩)] h K=(∀c,c=h.alloc [lV,lV] 23->C 60 [pointer (sB b)] c fun v c=>∃e,v=bool e/\if e then pA h.next 0/\∃a,c.store h.next 0 [lV,lV]=some a/\∃n d,(rD a h.next 0 2 [int .i64 n,int .i64 d])/\K (agg #[int .i64 n,int .i64 d]) a else sA b 0/\pA b 0/\∃n d,(rD c b 1 2 [int .i64 n,int .i64 d])/\pA h.next 0/\∃a,c.store h.next 0 [int .i64 n,int .i64 d]=some a/\∃n f,(rD a h.next 0 2 [int .i64 n,int .i64 f])/\K (agg #[int .i64 n,int .i64 f]) a):=by kernel_rfl
theorem Ag{a:OA}:vX C Tryz.prog Hq eE Tryz.f52 [pointer a] h K=(∃n d,(aD (isN a)->C 53 [pointer a] h fun v c=>v=agg #[int .i64 n,int .i64 d]/\c=h)/\∃b,(aD (isN a)->C 47 [agg #[int .i64 n,int .i64 d]] h fun v c=>v=bool b/\c=h)/\K (bool (aR (aD (isN a)) b false)) h):=by kernel_rfl
theorem Hg{a b:OA}:vX C Tryz.prog Hq eE Tryz.f27 [pointer a,pointer b] h K=(C 52 [pointer a] h fun v c=>∃d,v=bool d/\∃e,(aD (aD d)->C 52 [pointer b] c fun v j=>v=bool e/\j=c)/\if aR (aD d) true (aD e)=true then K (int .i64 1) c else C 53 [pointer a] c fun v c=>∃n f,v=agg #[int .i64 n,int .i64 f]/\C 53 [pointer b] c fun v c=>∃g i,v=agg #[int .i64 g,int .i64 i]/\if aD (dJ (bX n g) (dJ (bX f i) true)) then K (int .i64 2) c else K (int .i64 0) c):=by kernel_rfl
def Jh:SH:=fun i=>if i=2000152 then [(0,80)] else if i=4000005 then [(12,155),(13,35)] else []
theorem LO{t:Nat}:vX C Tryz.prog Hq Jh Tryz.f28 [pointer (some ⟨t,0,none⟩)] h K=(∀(b:Hp),b=h.alloc [pointer (sB t)] 30->∀(g:Hp),g=b.alloc [.map none] 90->∀(u:Hp),u=g.alloc [lV] 35->∀(o:Hp),o=u.newOb (Ob.map [] 0)->∀(L:Hp),L=o.alloc [.map none] 90->pA o.next 0/\∃(w:Hp),L.store o.next 0 [.map (some u.next)]=some w/\∃(a:OA),(rD w h.next 0 1 [pointer a])/\C 54 [pointer a] w fun v d=>∃(M:LV),v = .func (Fn.func 80) #[] (Array.mk M)/\∀(e:Lp) (N:Hp),e.isReady->N=d.newOb (Ob.loop e)->(∀(a:OA) (l c:Nat) (n:Int) (P:OA) (Q R:Nat) (S:OA) (T U:Nat) (V:OA) (W X:Nat) (y:Int) (k:Hp) (s:KT),loopAt k d.next=some e->(∀(m:Hp),m=k.alloc [nS,aW,nS,nS,nS] 155->pA k.next 0/\∃(f:Hp),m.store k.next 0 [slice a l c,int .u32 n,slice P Q R,slice S T U,slice V W X]=some f/\loopAt f d.next=some e/\∀(p:Hp),p=f.setOb d.next (Ob.loop e.busy)->if cP y 0 then pA b.next 0/\∃(i:Hp),p.store b.next 0 [.map none]=some i/\pA g.next 0/\∃(b:Hp),i.store g.next 0 [int .i64 y]=some b/\loopAt b d.next=some e.busy/\∀(j:Hp),j=b.setOb d.next (Ob.loop (e.left none))->s (bool false) j else ∀(i:Hp),i=p.alloc fH 41->∃(a:OA),(rD i h.next 0 1 [pointer a])/\pA k.next 0/\∃(z:OA) (l c:Nat) (A:OA) (B E:Nat) (F:OA) (G H:Nat),(rD i k.next 2 3 [slice z l c,slice A B E,slice F G H])/\C 53 [pointer a] i fun v j=>∃(n Y:Int),v=agg #[int .i64 n,int .i64 Y]/\(rD j k.next 2 3 [slice z l c,slice A B E,slice F G H])/\C 55 [agg #[int .i64 n,int .i64 Y],agg #[slice z l c,slice A B E,slice F G H]] j fun v ab=>∃(D:Nat->Int) (n:Int),v=tuple #[agg (Array.mk ((aK .u8 32 D))),int .i64 n]/\pA p.next 0/\∃(q:Hp),ab.store p.next 0 ((aK .u8 32 D))=some q/\if cP n 0 then pA b.next 0/\∃(r:Hp),q.store b.next 0 [.map none]=some r/\pA g.next 0/\∃(b:Hp),r.store g.next 0 [int .i64 n]=some b/\loopAt b d.next=some e.busy/\∀(Z:Hp),Z=b.setOb d.next (Ob.loop (e.left none))->s (bool false) Z else ∃(a:ON),(rD q o.next 0 1 [.map a])/\∃(D:Nat->Int),(rD q p.next 0 32 ((aK .u8 32 D)))/\∃(n:Int),dY Tryz.prog 90 (.map a) (agg (Array.mk ((aK .u8 32 D)))) false q=some (int .i64 n)/\∃(ac O:Int) (b:Hp),jU Tryz.prog 90 (.map a) (agg (Array.mk ((aK .u8 32 D)))) q=some (tuple #[int .i64 ac,int .i64 O],b)/\dY Tryz.prog 90 (.map a) (agg (Array.mk ((aK .u8 32 D)))) false b=some (int .i64 n)/\∃(r:Hp),gV (.map a) (int .i64 O) (int .i64 (aG .i64 n 1)) b=some r/\loopAt r d.next=some e.busy/\∀(b:Hp),b=r.setOb d.next (Ob.loop e)->s (bool true) b)->C (yld Tryz.prog d.next) [agg #[slice a l c,int .u32 n,slice P Q R,slice S T U,slice V W X],int .i64 y] k s)->C 80 (.func (Fn.yield d.next) #[] #[]::M) N fun(x:Value) (m:Hp)=>(loopAt m d.next=some (e.left none)/\∀(f:Hp),f=m.setOb d.next (Ob.loop (e.left none).gone)->∃(a:ON),(rD f b.next 0 1 [.map a])/\∃(n:Int),(rD f g.next 0 1 [int .i64 n])/\K (tuple #[.map a,int .i64 n]) f)\/loopAt m d.next=some e/\∀(f:Hp),f=m.setOb d.next (Ob.loop e.gone)->∃(a:ON),(rD f o.next 0 1 [.map a])/\pA b.next 0/\∃(i:Hp),f.store b.next 0 [.map a]=some i/\pA g.next 0/\∃(j:Hp),i.store g.next 0 [int .i64 0]=some j/\∃(a:ON),(rD j b.next 0 1 [.map a])/\∃(n:Int),(rD j g.next 0 1 [int .i64 n])/\K (tuple #[.map a,int .i64 n]) j):=by kernel_rfl
def GU:SH:=fun i=>if i=5000039 then [(0,90)] else if i=8000038 then [(0,90)] else if i=5000053 then [(0,90)] else if i=8000052 then [(0,90)] else if i=12 then [(10,3)] else if i=17 then [(10,3)] else []
theorem uO{a b:OA}:vX C Tryz.prog Hq GU Tryz.f9 [pointer a,pointer b] h K=(C 27 [pointer a,pointer b] h fun v c=>∃n,v=int .i64 n/\if cP n 0 then K (tuple #[int .i64 0,int .i64 n]) c else C 28 [pointer a] c fun v c=>∃a n,v=tuple #[.map a,int .i64 n]/\if cP n 0 then K (tuple #[int .i64 0,int .i64 n]) c else C 28 [pointer b] c fun v c=>∃j n,v=tuple #[.map j,int .i64 n]/\if cP n 0 then K (tuple #[int .i64 0,int .i64 n]) c else ∃o,qM Tryz.prog 90 (.map a) c=some (pointer (sB c.next),o)/\∃(I:IT),(∃m,I [int .i64 0] m o)/\∀n m h,I [int .i64 n] m h->∃(l:List (Value×Hp)),wM (pointer (sB c.next)) h=some l/\∀(r:Value×Hp),List.Mem r l->(r.1=tuple #[bool false]/\∃c,qM Tryz.prog 90 (.map j) r.2=some (pointer (sB r.2.next),c)/\∃(I:IT),(∃m,I [int .i64 n] m c)/\∀n m h,I [int .i64 n] m h->∃(l:List (Value×Hp)),wM (pointer (sB r.2.next)) h=some l/\∀(f:Value×Hp),List.Mem f l->f.1=tuple #[bool false]/\K (tuple #[int .i64 n,int .i64 0]) f.2\/∃D k,f.1=tuple #[bool true,agg (Array.mk ((aK .u8 32 D))),int .i64 k]/\∃D g,jV (pointer (sB r.2.next)) f.2=some (tuple #[agg (Array.mk ((aK .u8 32 D))),int .i64 g])/\∀c,c=f.2.alloc fH 41->pA f.2.next 0/\∃d,c.store f.2.next 0 ((aK .u8 32 D))=some d/\∃D,(rD d f.2.next 0 32 ((aK .u8 32 D)))/\∃i,dY Tryz.prog 90 (.map a) (agg (Array.mk ((aK .u8 32 D)))) false d=some (int .i64 i)/\if bX i 0 then ∃e,aI e m/\I [int .i64 (aG .i64 n g)] e d else ∃e,aI e m/\I [int .i64 n] e d)\/∃D k,r.1=tuple #[bool true,agg (Array.mk ((aK .u8 32 D))),int .i64 k]/\∃D g,jV (pointer (sB c.next)) r.2=some (tuple #[agg (Array.mk ((aK .u8 32 D))),int .i64 g])/\∀c,c=r.2.alloc fH 41->pA r.2.next 0/\∃d,c.store r.2.next 0 ((aK .u8 32 D))=some d/\∃D,(rD d r.2.next 0 32 ((aK .u8 32 D)))/\∃i,dY Tryz.prog 90 (.map j) (agg (Array.mk ((aK .u8 32 D)))) false d=some (int .i64 i)/\if bX i 0 then ∃e,aI e m/\I [int .i64 (aG .i64 n g)] e d else ∃e,aI e m/\I [int .i64 n] e d):=by kernel_rfl
def Lu:SH:=fun i=>if i=3 then [(3,3),(4,3)] else []
theorem OO{p w rt off:Int}{ab sa:OA}{lb cb ls cs:Nat}{tn:Bool}:vX C Tryz.prog Hq Lu Tryz.f6 [agg (Array.mk [int .i64 p,int .i64 w,slice ab lb cb,int .i64 rt,slice sa ls cs,bool tn,int .i64 off])] h K=(∀f,f=h.alloc [int .i64 p,int .i64 w,slice ab lb cb,int .i64 rt,slice sa ls cs,bool tn,int .i64 off] 27->∃(I:IT),(∃m,I [int .i64 0,int .i64 0] m f)/\∀n b m d,I [int .i64 n,int .i64 b] m d->pA h.next 0/\∃a l c,(rD d h.next 2 1 [slice a l c])/\if aR (bO b (aE l)) (qA n 100000) false=true then pA h.next 0/\∃a l c,(rD d h.next 2 1 [slice a l c])/\(a.isSome/\bS b l)/\pA (blk a) (aA (Cn.off a) b 3)/\∃o l c,(rD d (blk a) (aA (Cn.off a) b 3) 1 [slice o l c])/\pA h.next 0/\∃a e c,(rD d h.next 2 1 [slice a e c])/\(a.isSome/\bS b e)/\pA (blk a) (aA (Cn.off a) b 3)/\∃q g c,(rD d (blk a) (cI (aA (Cn.off a) b 3) 2) 1 [slice q g c])/\pA h.next 0/\∃a i c,(rD d h.next 2 1 [slice a i c])/\(a.isSome/\bS b i)/\pA (blk a) (aA (Cn.off a) b 3)/\∃r j c,(rD d (blk a) (cI (aA (Cn.off a) b 3) 1) 1 [slice r j c])/\∃k,aI k m/\I [int .i64 (aG .i64 (aG .i64 (aG .i64 (aG .i64 n 1) (aE l)) (aE g)) (aE j)),int .i64 (aG .i64 b 1)] k d else(qA n 100000->pA h.next 0)/\∃a l c,(qA n 100000->rD d h.next 2 1 [slice a l c])/\(aR (qA n 100000) (qA (aE l) 300) false=true->pA h.next 0)/\∃a e c,(aR (qA n 100000) (qA (aE l) 300) false=true->rD d h.next 4 1 [slice a e c])/\K (bool (aR (aR (qA n 100000) (qA (aE l) 300) false) (qA (aE e) 300) false)) d):=by kernel_rfl
def Jg:SH:=fun i=>if i=2000077 then [(0,32)] else if i=2000081 then [(0,139)] else []
theorem LL{p w rt off:Int}{ab sa:OA}{lb cb ls cs:Nat}{tn:Bool}:vX C Tryz.prog Hq Jg Tryz.f8 [agg (Array.mk [int .i64 p,int .i64 w,slice ab lb cb,int .i64 rt,slice sa ls cs,bool tn,int .i64 off])] h K=(∀(d:Hp),d=h.alloc [int .i64 p,int .i64 w,slice ab lb cb,int .i64 rt,slice sa ls cs,bool tn,int .i64 off] 27->pA h.next 0/\∃(n r:Int),(rD d h.next 0 2 [int .i64 n,int .i64 r])/\C 20 [agg #[int .i64 n,int .i64 r]] d fun v d=>∃(b:Bool),v=bool b/\if aD b then K (tuple #[pointer none,pointer none,pointer none,bool true]) d else ∃(n s:Int) (a:OA) (l c:Nat) (t:Int) (u:OA) (x y:Nat) (b:Bool) (z:Int),(rD d h.next 0 7 [int .i64 n,int .i64 s,slice a l c,int .i64 t,slice u x y,bool b,int .i64 z])/\C 21 [agg #[int .i64 n,int .i64 s,slice a l c,int .i64 t,slice u x y,bool b,int .i64 z]] d fun v d=>∃(a:OA) (l c:Nat),v=slice a l c/\pA h.next 0/\∃(n A:Int),(rD d h.next 0 2 [int .i64 n,int .i64 A])/\C 22 [agg #[int .i64 n,int .i64 A],slice a l c] d fun v d=>∃(g:OA) (n:Int),v=tuple #[pointer g,int .i64 n]/\if aR (cP n 0) true (isN g)=true then K (tuple #[pointer none,pointer none,pointer none,bool false]) d else ∀(i:Hp),i=d.alloc [.iface 73 (pointer g),lV] 79->pA h.next 0/\∃(n B:Int),(rD i h.next 0 2 [int .i64 n,int .i64 B])/\C 23 [agg #[int .i64 n,int .i64 B],.iface 32 (pointer (sB d.next))] i fun v e=>∃(f:OA) (n:Int),v=tuple #[.iface 139 (pointer f),int .i64 n]/\(aD (cP n 0)->qC (.iface 139 (pointer f)))/\if aR (cP n 0) true (iR (.iface 139 (pointer f)))=true then K (tuple #[pointer none,pointer none,pointer none,bool false]) e else pA h.next 0/\∃(n j:Int),(rD e h.next 0 2 [int .i64 n,int .i64 j])/\∃(E F:Int) (G:OA) (H L:Nat) (M:Int) (N:OA) (P Q:Nat) (b:Bool) (R:Int),(rD e h.next 0 7 [int .i64 E,int .i64 F,slice G H L,int .i64 M,slice N P Q,bool b,int .i64 R])/\C 25 [agg #[int .i64 E,int .i64 F,slice G H L,int .i64 M,slice N P Q,bool b,int .i64 R]] e fun v S=>∃(T:Int) (D:Nat->Int) (U V:Int),v=agg (Array.mk (([int .u32 T]++aK .u8 32 D++[int .u64 U,int .u64 V])))/\(rD S h.next 0 2 [int .i64 n,int .i64 j])/\C 24 [agg #[int .i64 n,int .i64 j],.iface 139 (pointer f),agg (Array.mk (([int .u32 T]++aK .u8 32 D++[int .u64 U,int .u64 V])))] S fun v k=>∃(m:OA) (n:Int),v=tuple #[pointer m,int .i64 n]/\pA h.next 0/\∃(o q:Int),(rD k h.next 0 2 [int .i64 o,int .i64 q])/\∃(W X:Int) (Y:OA) (Z O:Nat) (ac:Int) (ad:OA) (ae af:Nat) (b:Bool) (ag:Int),(rD k h.next 0 7 [int .i64 W,int .i64 X,slice Y Z O,int .i64 ac,slice ad ae af,bool b,int .i64 ag])/\C 25 [agg #[int .i64 W,int .i64 X,slice Y Z O,int .i64 ac,slice ad ae af,bool b,int .i64 ag]] k fun v ah=>∃(ai:Int) (D:Nat->Int) (aj ak:Int),v=agg (Array.mk (([int .u32 ai]++aK .u8 32 D++[int .u64 aj,int .u64 ak])))/\(rD ah h.next 0 2 [int .i64 o,int .i64 q])/\C 26 [agg #[int .i64 o,int .i64 q],slice a l c,agg (Array.mk (([int .u32 ai]++aK .u8 32 D++[int .u64 aj,int .u64 ak])))] ah fun v am=>∃(a:OA) (al:Int),v=tuple #[pointer a,int .i64 al]/\K (tuple #[pointer m,pointer a,pointer (sB d.next),bool (aR (bX n al) (zK (isN m) (isN a)) false)]) am):=by kernel_rfl
theorem JJ{p w rt off p' w' ak O:Int}{ab sa al an:OA}{lb cb ls cs ao ap aq ar:Nat}{tn au:Bool}:vX C Tryz.prog Hq eE Tryz.f3 [agg (Array.mk [int .i64 p,int .i64 w,slice ab lb cb,int .i64 rt,slice sa ls cs,bool tn,int .i64 off]),agg (Array.mk [int .i64 p',int .i64 w',slice al ao ap,int .i64 ak,slice an aq ar,bool au,int .i64 O])] h K=(∀(d:Hp),d=h.alloc [int .i64 p,int .i64 w,slice ab lb cb,int .i64 rt,slice sa ls cs,bool tn,int .i64 off] 27->∀(k:Hp),k=d.alloc [int .i64 p',int .i64 w',slice al ao ap,int .i64 ak,slice an aq ar,bool au,int .i64 O] 27->∃(n o:Int) (a:OA) (l c:Nat) (q:Int) (r:OA) (s t:Nat) (b:Bool) (u:Int),(rD k h.next 0 7 [int .i64 n,int .i64 o,slice a l c,int .i64 q,slice r s t,bool b,int .i64 u])/\C 6 [agg #[int .i64 n,int .i64 o,slice a l c,int .i64 q,slice r s t,bool b,int .i64 u]] k fun v e=>∃(b:Bool),v=bool b/\∃(n x:Int) (a:OA) (l c:Nat) (y:Int) (z:OA) (A B:Nat) (D:Bool) (E:Int),(aD (aD b)->rD e d.next 0 7 [int .i64 n,int .i64 x,slice a l c,int .i64 y,slice z A B,bool D,int .i64 E])/\∃(F:Bool),(aD (aD b)->C 6 [agg #[int .i64 n,int .i64 x,slice a l c,int .i64 y,slice z A B,bool D,int .i64 E]] e fun v d=>v=bool F/\d=e)/\if aR (aD b) true (aD F)=true then C 7 [] e fun v d=>∃(b:Bool),v=bool b/\K (bool b) d else ∃(n G:Int) (a:OA) (l c:Nat) (H:Int) (L:OA) (M N:Nat) (b:Bool) (P:Int),(rD e h.next 0 7 [int .i64 n,int .i64 G,slice a l c,int .i64 H,slice L M N,bool b,int .i64 P])/\C 8 [agg #[int .i64 n,int .i64 G,slice a l c,int .i64 H,slice L M N,bool b,int .i64 P]] e fun v R=>∃(a f ai:OA) (b:Bool),v=tuple #[pointer a,pointer f,pointer ai,bool b]/\∃(n S:Int) (T:OA) (l c:Nat) (U:Int) (V:OA) (W X:Nat) (Y:Bool) (Z:Int),(rD R d.next 0 7 [int .i64 n,int .i64 S,slice T l c,int .i64 U,slice V W X,bool Y,int .i64 Z])/\C 8 [agg #[int .i64 n,int .i64 S,slice T l c,int .i64 U,slice V W X,bool Y,int .i64 Z]] R fun v d=>∃(m g aj:OA) (i:Bool),v=tuple #[pointer m,pointer g,pointer aj,bool i]/\∃(Q:KT),(aD (aR (aD b) true (aD i))->C 7 [] d fun v d=>∃(b:Bool),v=bool b/\Q (bool b) d)/\(aD (aR (aD b) true (aD i))=false->∃(b:Bool),Q (bool b) d)/\∀(aa:Bool) (d:Hp),Q (bool aa) d->if aR (aR (aD b) true (aD i)) true (aD aa)=true then K (bool false) d else C 9 [pointer a,pointer m] d fun v d=>∃(n j:Int),v=tuple #[int .i64 n,int .i64 j]/\if aR (isN a) true (isN m)=true then K (bool (aR (bX n 0) (bX j 1) false)) d else f.isSome/\aN f=true/\∃(ac ad:Int),(rD d (blk f) (Cn.off f) 2 [int .i64 ac,int .i64 ad])/\g.isSome/\aN g=true/\∃(ae af:Int),(rD d (blk g) (Cn.off g) 2 [int .i64 ae,int .i64 af])/\if aD (dJ (bX ac ae) (dJ (bX ad af) true)) then K (bool (aR (bX n 0) (bX j 2) false)) d else C 10 [pointer f,pointer g] d fun v d=>∃(ag ah:Int),v=tuple #[int .i64 ag,int .i64 ah]/\K (bool (aR (bX n ag) (bX j ah) false)) d):=by kernel_rfl
end Go.Proofs.YtmapagggnigfpaaGreat.vc
set_option linter.unusedSimpArgs false
namespace Go.Cn
structure Wf(h:Hp):Prop where
 fresh:∀b,h.next<=b->h.ob b=none/\h.gs.get b=none
 grp:∀b cs t g,h.ob b=some (.cells cs t (some g))->g < h.next
 stack:∀g l,h.gs.get g=some l->∀b∈l,∃cs t,h.ob b=some (.cells cs t (some g))
theorem HR.wf{base:Nat}{σ:Sg}{h:Hp}{w:World}(hr:HR base σ h w):Wf h:=⟨hr.fresh,hr.grp,hr.stack⟩
theorem Wf.lt{h:Hp}(wf:Wf h){b:Nat}{o:Ob}(hb:h.ob b=some o):b < h.next:=by
 apply Nat.lt_of_not_le;intro E;rw[(wf.fresh b E).1]at hb;simp at hb
section
variable {P:Program}
theorem sU.wf{base:Nat}{σ:Sg}{h:Hp}{w:World}{K E:KT}(U:∀v h',Wf h'->h.next<=h'.next->K v h'->E v h'){e:Ending}{w':World}(hp:sU base σ h w K e w'):sU base σ h w E e w':=by
 obtain⟨v,v',h',cE,V,W,h3,G,O⟩:=hp;exact⟨v,v',h',cE,V,U _ _ G.wf O.next W,h3,G,O⟩
theorem SCalls.wf{f:FuncId}{args:LV}{h:Hp}{K O:KT}(G:SCalls P f args h K)(U:∀v h',Wf h'->h.next<=h'.next->K v h'->O v h'):SCalls P f args h O:=by
 rcases G with G | ⟨l,V,G⟩
 ·exact .inl ⟨G.1,fun base σ w E hr hl=>(G.2 base σ w E hr hl).mono fun _ _=>sU.wf U⟩
 ·refine .inr ⟨l,V,fun base σ w E e hr hl he=>?_⟩;obtain⟨r,W,h2,h3⟩:=G base σ w E e hr hl he;exact⟨r,W,h2,h3.mono fun _ _=>sU.wf U⟩
theorem SCalls.of_wf{f:FuncId}{args:LV}{h:Hp}{K:KT}(E:∃fn,P.funcs[f]? = some fn/\fn.body.isSome=true/\jG fn=true)(G:Wf h->SCalls P f args h K):SCalls P f args h K :=
 SCalls.of_rel (.inl E) fun base σ w hr=>G hr.wf
theorem Cw(hm:P.follows .mixedOrders=true){pf:FuncId->Bool}{f:FuncId}{fn:Func}{c:Code}{E:Nat->List (Tmp×TI)}{args:LV}{h:Hp}{K:KT}
  (G:P.funcs[f]? = some fn) (hb:fn.body=some c) (O:jG fn=true) (U:Wf h->Lj P (SCalls P) pf E fn c args h K):SCalls P f args h K :=
 SCalls.of_wf ⟨fn,G,by rw[hb];rfl,O⟩ fun wf=>FH hm G hb O (U wf)
end
def Blk(h:Hp)(b:Nat)(g:ON)(cs:LV):Prop:=∃t,h.ob b=some (.cells cs t g)/\h.live b g=true
theorem Blk.lt{h:Hp}(wf:Wf h){b:Nat}{g:ON}{cs:LV}(hb:Blk h b g cs):b < h.next:=by
 obtain⟨t,E,_⟩:=hb;exact wf.lt E
theorem Blk.glt{h:Hp}(wf:Wf h){b g:Nat}{cs:LV}(hb:Blk h b (some g) cs):g < h.next:=by
 obtain⟨t,E,_⟩:=hb;exact wf.grp _ _ _ _ E
theorem Blk.cells{h:Hp}{b:Nat}{g:ON}{cs:LV}(hb:Blk h b g cs){o n:Nat}(E:o+n<=cs.length):h.cellsAt b o n=some ((cs.drop o).take n):=by
 obtain⟨t,G,O⟩:=hb;simp[Hp.cellsAt,G,O,E]
structure Keep(S:NP)(h h':Hp):Prop where
 next:h.next<=h'.next
 ro:∀b cs t,h.ob b=some (.cells cs t none)->h'.ob b=some (.cells cs t none)
 rw:∀b cs t g,h.ob b=some (.cells cs t (some g))->¬S g->h'.ob b=some (.cells cs t (some g))/\h'.gs.get g=h.gs.get g
 oth:∀b o,h.ob b=some o->o.isOth=true->¬S b->h'.ob b=some o
abbrev Kept(h h':Hp):Prop:=Keep (fun _=>False) h h'
theorem Keep.refl(S:NP)(h:Hp):Keep S h h:=⟨Uf _,fun _ _ _ h=>h,fun _ _ _ _ h _=>⟨h,rfl⟩,fun _ _ h _ _=>h⟩
theorem Keep.trans{S S':NP}{h U V:Hp}(wf:Wf h)(a:Keep S h U)(b:Keep S' U V)(hs:∀g,g < h.next->S' g->S g):Keep S h V:=by
 refine⟨Nat.le_trans a.next b.next,fun x cs t E=>b.ro _ _ _ (a.ro _ _ _ E),fun x cs t g E G=>?_,fun x o E hi G=>b.oth x o (a.oth x o E hi G) hi fun O=>G (hs x (wf.lt E) O)⟩;obtain⟨W,h4⟩:=a.rw _ _ _ _ E G;obtain⟨h5,h6⟩:=b.rw _ _ _ _ W (fun O=>G (hs g (wf.grp _ _ _ _ E) O));exact⟨h5,h6.trans h4⟩
theorem Keep.mono{S S':NP}{h h':Hp}(wf:Wf h)(a:Keep S h h')(hs:∀g,g < h.next->S g->S' g):Keep S' h h' :=
 ⟨a.next,a.ro,fun x cs t g E G=>a.rw _ _ _ _ E fun O=>G (hs g (wf.grp _ _ _ _ E) O),fun x o E hi G=>a.oth x o E hi fun O=>G (hs x (wf.lt E) O)⟩
theorem Keep.blk{S:NP}{h h':Hp}(k:Keep S h h'){b:Nat}{g:ON}{cs:LV}(hb:Blk h b g cs)(G:∀x,g=some x->¬S x):Blk h' b g cs:=by
 obtain⟨t,E,O⟩:=hb
 cases g with
 | none=>exact⟨t,k.ro _ _ _ E,rfl⟩
 | some x =>
  obtain⟨U,V⟩:=k.rw _ _ _ _ E (G x rfl);refine⟨t,U,?_⟩;simpa[Hp.live,V]using O
theorem Kept.blk{h h':Hp}(k:Kept h h'){b:Nat}{g:ON}{cs:LV}(hb:Blk h b g cs):Blk h' b g cs:=Keep.blk k hb fun _ _ E=>E
section
variable {h:Hp} (wf:Wf h) (cs:LV) (e:TI)
include wf
theorem lU:Blk (h.alloc cs e) h.next (some h.next) cs:=by
 refine⟨e,by rw[Hp.ob_alloc];simp,?_⟩;have:(h.alloc cs e).gs.get h.next=none:=(wf.fresh _ (Uf _)).2;simp[Hp.live,this]
theorem jY:Kept h (h.alloc cs e):=by
 refine⟨Nat.le_succ _,fun b c t hb=>?_,fun b c t g hb _=>⟨?_,rfl⟩,fun b o hb _ _=>by rw[Hp.ob_alloc,if_neg (by have:=wf.lt hb;omega)];exact hb⟩
 ·rw[Hp.ob_alloc,if_neg (by have:=wf.lt hb;omega)];exact hb
 ·rw[Hp.ob_alloc,if_neg (by have:=wf.lt hb;omega)];exact hb
theorem oK:Wf (h.alloc cs e):=by
 refine⟨fun b hb=>?_,fun b c t g hb=>?_,fun g l G b hb=>?_⟩
 ·have O:h.next+1<=b:=hb;exact⟨by rw[Hp.ob_alloc,if_neg (by omega)];exact(wf.fresh b (by omega)).1,(wf.fresh b (by omega)).2⟩
 ·rw[Hp.ob_alloc]at hb;show g < h.next+1
  split at hb
  ·simp at hb;omega
  ·have:=wf.grp _ _ _ _ hb;omega
 ·obtain⟨c,t,E⟩:=wf.stack g l G b hb;exact⟨c,t,by rw[Hp.ob_alloc,if_neg (by have:=wf.lt E;omega)];exact E⟩
end
theorem AA(h:Hp)(cs:LV)(e:TI):(h.alloc cs e).next=h.next+1:=rfl
theorem Blk.store{h:Hp}{b g o:Nat}{cs vs:LV}(hb:Blk h b (some g) cs)(ho:o+vs.length<=cs.length)(hv:vs.all isCell=true):
  ∃h',h.store b o vs=some h'/\Blk h' b (some g) (splice cs o vs)/\Keep (· = g) h h'/\h'.next=h.next/\(Wf h->Wf h'):=by
 obtain⟨t,G,W⟩:=hb;refine⟨(h.only b g).setOb b (.cells (splice cs o vs) t (some g)),by simp[Hp.store,G,W,ho,hv],?_,?_,?_,?_⟩
 ·refine⟨t,by rw[Hp.ob_setOb];simp,?_⟩;have hg:=Hp.gs_only h b g g;simp only[if_true]at hg;simp only[Hp.live,Hp.gs_setOb,hg];simp only[Hp.live]at W
  cases E:h.gs.get g with
  | none=>simp[E]at W ⊢;exact W
  | some l=>simp
 ·refine⟨by rw[Hp.next_setOb,Hp.next_only];exact Uf _,fun x c u E=>?_,fun x c u k E hn=>?_,fun x o E hi _=>by
   rw[Hp.ob_setOb,Hp.ob_only]
   split
   ·rename_i e;subst e;rw[G]at E;simp at E;subst E;simp[Ob.isOth]at hi
   ·exact E⟩
  ·rw[Hp.ob_setOb,Hp.ob_only]
   split
   ·rename_i e;subst e;rw[G]at E;simp at E
   ·exact E
  ·rw[Hp.ob_setOb,Hp.ob_only,Hp.gs_setOb,Hp.gs_only,if_neg hn]
   split
   ·rename_i e;subst e;rw[G]at E;simp at E;exact absurd E.2.2.symm hn
   ·exact⟨E,rfl⟩
 ·rw[Hp.next_setOb,Hp.next_only]
 ·intro wf;refine⟨fun x E=>?_,fun x c u k E=>?_,fun k l O x E=>?_⟩
  ·rw[Hp.next_setOb,Hp.next_only]at E;have U:x≠b:=by have:=wf.lt G;omega
   have aa:x≠g:=by have:=wf.grp _ _ _ _ G;omega
   rw[Hp.ob_setOb,Hp.ob_only,if_neg U,Hp.gs_setOb,Hp.gs_only,if_neg aa];exact wf.fresh x E
  ·rw[Hp.next_setOb,Hp.next_only];rw[Hp.ob_setOb,Hp.ob_only]at E
   split at E
   ·simp at E;rw[<-E.2.2];exact wf.grp _ _ _ _ G
   ·exact wf.grp _ _ _ _ E
  ·rw[Hp.gs_setOb,Hp.gs_only]at O;simp only[Hp.ob_setOb,Hp.ob_only];by_cases V:x=b
   ·subst V;simp only[if_true]
    split at O
    ·rename_i e;subst e;exact⟨_,_,rfl⟩
    ·rename_i U
     obtain⟨c,u,h3⟩:=wf.stack k l O _ E;rw[G]at h3;simp at h3;exact absurd h3.2.2.symm U
   ·simp only[V,if_false]
    split at O
    ·rename_i e;subst e
     cases hy:h.gs.get k with
     | none=>simp[hy]at O
     | some l'=>simp[hy]at O;subst O;simp at E;exact absurd E V
    ·exact wf.stack k l O x E
theorem Hp.below_mem{h:Hp}{b g x:Nat}(E:x∈h.below b g):x=b\/∃l,h.gs.get g=some l/\x∈l:=by
 unfold Hp.below at E
 cases G:h.gs.get g with
 | none=>simp[G]at E;exact .inl E
 | some l=>simp[G]at E;exact .inr ⟨l,rfl,(List.dropWhile_suffix _).subset E⟩
theorem Hp.below_self{h:Hp}{b g:Nat}(hl:h.live b (some g)=true):b∈h.below b g:=by
 unfold Hp.below;simp only[Hp.live]at hl
 cases E:h.gs.get g with
 | none=>simp
 | some l =>
  simp[E]at hl ⊢;obtain⟨r,hr⟩:=mI b l hl;rw[hr];simp
theorem Blk.extend{h:Hp}(wf:Wf h){b g o e:Nat}{cs new:LV}(hb:Blk h b (some g) cs)(ho:o<=e)(he:e<=cs.length)(hv:new.all isCell=true):
  ∃h',h.extend b o e new=some h'/\Blk h' h.next (some g) ((cs.drop o).take (e - o)++new)/\Blk h' b (some g) (cs.take e)/\Keep (· = g) h h'/\h'.next=h.next+1/\Wf h':=by
 have af:=hb.lt wf;have ae:=hb.glt wf;obtain⟨t,h1,h2⟩:=hb;have hx:∃h',h.extend b o e new=some h':=by simp[Hp.extend,h1,h2,ho,he,hv]
 obtain⟨h',hx⟩:=hx;obtain⟨ag,t0,g0,rest,G⟩:=Hp.extend_spec hx (by omega);have e1:=G.old;rw[h1]at e1;simp at e1;obtain⟨rfl,rfl,rfl⟩:=e1;have aa:b∈rest:=by
  rcases G.rest with ⟨_,e2⟩ | e2
  ·rw[e2];exact Hp.below_self h2
  ·rw[e2];simp
 have ac:∀x∈rest,x=b\/∃l,h.gs.get g=some l/\x∈l:=by
  intro x U;rcases G.rest with ⟨_,e2⟩ | e2
  ·rw[e2]at U;exact Hp.below_mem U
  ·rw[e2]at U;simp at U;exact .inl U
 refine⟨h',hx,⟨t,by rw[G.ob];simp,?_⟩,⟨t,?_,?_⟩,⟨by rw[G.next];omega,?_,?_,?_⟩,G.next,⟨?_,?_,?_⟩⟩
 ·simp[Hp.live,G.gs]
 ·rw[G.ob,if_neg (by omega),if_pos rfl]
 ·simp[Hp.live,G.gs,aa]
 ·intro x c u E;rw[G.ob,if_neg (by have:=wf.lt E;omega),if_neg]
  ·exact E
  ·intro e;subst e;rw[h1]at E;simp at E
 ·intro x c u k E hn;rw[G.ob,if_neg (by have:=wf.lt E;omega),if_neg,G.gs,if_neg hn]
  ·exact⟨E,rfl⟩
  ·intro e;subst e;rw[h1]at E;simp at E;exact hn E.2.2.symm
 ·intro x o E hi _;rw[G.ob,if_neg (by have:=wf.lt E;omega),if_neg]
  ·exact E
  ·intro e;subst e;rw[h1]at E;simp at E;subst E;simp[Ob.isOth]at hi
 ·intro x V;rw[G.next]at V;rw[G.ob,if_neg (by omega),if_neg (by omega),G.gs,if_neg (by omega)];exact wf.fresh x (by omega)
 ·intro x c u k E;rw[G.next];rw[G.ob]at E
  split at E
  ·simp at E;omega
  ·split at E
   ·simp at E;omega
   ·have:=wf.grp _ _ _ _ E;omega
 ·intro k l hk x W;rw[G.gs]at hk;rw[G.ob];by_cases V:x=h.next
  ·subst V;simp only[if_true]
   split at hk
   ·rename_i e2;subst e2;exact⟨_,_,rfl⟩
   ·obtain⟨c,u,h3⟩:=wf.stack k l hk _ W;have:=wf.lt h3;omega
  ·simp only[V,if_false]
   split at hk
   ·rename_i e2;subst e2
    simp at hk;subst hk;simp[V]at W;by_cases O:x=b
    ·subst O;simp
    ·simp only[O,if_false];rcases ac x W with e3 | ⟨l',h3,h4⟩
     ·exact absurd e3 O
     ·exact wf.stack _ _ h3 x h4
   ·rename_i ad
    obtain⟨c,u,h3⟩:=wf.stack k l hk x W;by_cases O:x=b
    ·subst O;rw[h1]at h3;simp at h3;exact absurd h3.2.2.symm ad
    ·simp only[O,if_false];exact⟨c,u,h3⟩
structure Sl(h:Hp)(w:Nat)(g:ON)(a:OA)(l c:Nat)(cs:LV):Prop where
 le:l<=c
 len:cs.length=l * w
 mem:match a with
  | none=>l=0/\c=0
  | some ⟨b,o,sp⟩=>(sp=none\/sp=some w)/\(0 < l->∃CS,Blk h b g CS/\o+l * w<=CS.length/\(CS.drop o).take (l * w)=cs)
theorem Sl.nil(h:Hp)(w:Nat)(g:ON):Sl h w g none 0 0 []:=⟨Uf _,by simp,rfl,rfl⟩
theorem Sl.keep{S:NP}{h h':Hp}(k:Keep S h h'){w:Nat}{g:ON}{a:OA}{l c:Nat}{cs:LV}(s:Sl h w g a l c cs)(E:∀x,g=some x->¬S x):Sl h' w g a l c cs:=by
 refine⟨s.le,s.len,?_⟩;have:=s.mem
 cases a with
 | none=>exact this
 | some a =>
  obtain⟨b,o,sp⟩:=a;obtain⟨G,this⟩:=this;refine⟨G,fun h0=>?_⟩;obtain⟨CS,O,U,V⟩:=this h0;exact⟨CS,k.blk O E,U,V⟩
theorem rS{α:Type}{CS cs:List α}{o n i m:Nat}(h:(CS.drop o).take n=cs)(hi:i+m<=n):(CS.drop (o+i)).take m=(cs.drop i).take m:=by
 subst h;rw[List.drop_take,List.take_take,WJ];congr 1
 omega
theorem Sl.cells{h:Hp}{w:Nat}{g:ON}{a:OA}{l c:Nat}{cs:LV}(s:Sl h w g a l c cs){i m:Nat}(hi:i+m<=l * w)(hl:0 < l):a.isSome=true/\h.cellsAt (blk a) (off a+i) m=some ((cs.drop i).take m):=by
 have h0:=s.mem
 cases a with
 | none=>simp at h0;omega
 | some a =>
  obtain⟨b,o,sp⟩:=a;obtain⟨O,h0⟩:=h0;obtain⟨CS,E,U,G⟩:=h0 hl;refine⟨rfl,?_⟩;show h.cellsAt b (o+i) m=_;rw[E.cells (by omega),rS G hi]
structure SlT{α:Type}(enc:α->LV)(w:Nat)(h:Hp)(g:ON)(a:OA)(l c:Nat)(L:List α):Prop where
 sl:Sl h w g a l c (L.flatMap enc)
 len:L.length=l
section
variable {α:Type} {enc:α->LV} {w:Nat}
theorem Ea(hw:∀x,(enc x).length=w)(L:List α):(L.flatMap enc).length=L.length * w:=by
 induction L with
 | nil=>simp
 | cons x L E=>simp only[Vg,Ug,hw,E,Ux,Nat.succ_mul];omega
theorem Mp(hw:∀x,(enc x).length=w){L:List α}{i j m:Nat}{x:α}(E:L[i]? = some x)(hm:j+m<=w):((L.flatMap enc).drop (i * w+j)).take m=((enc x).drop j).take m:=by
 induction L generalizing i with
 | nil=>simp at E
 | cons y L G =>
  cases i with
  | zero =>
   simp at E;subst E;simp only[Vg,Nat.zero_mul,Nat.zero_add];rw[Vy (by rw[hw];omega),Vz (by rw[Vf,hw];omega)]
  | succ i =>
   simp only[Vd]at E;simp only[Vg];rw[show(i+1) * w+j=(enc y).length+(i * w+j) by rw[hw,Nat.succ_mul];omega,<-WJ,List.drop_left];exact G E
theorem SlT.get(hw:∀x,(enc x).length=w){h:Hp}{g:ON}{a:OA}{l c:Nat}{L:List α}(s:SlT enc w h g a l c L){i j m:Nat}{x:α}(E:L[i]? = some x)(hm:j+m<=w):
  a.isSome=true/\h.cellsAt (blk a) (off a+i * w+j) m=some (((enc x).drop j).take m):=by
 have hi:i < l:=by rw[<-s.len];exact(Us.mp E).1
 have G:i * w+w<=l * w:=by rw[<-Nat.succ_mul];exact VU w hi
 have:=s.sl.cells (i:=i * w+j) (m:=m) (by omega) (by omega);rw[Mp hw E hm]at this;rw[Vw];exact this
theorem SlT.grp{h:Hp}(wf:Wf h){g:ON}{a:OA}{l c:Nat}{L:List α}(s:SlT enc w h g a l c L):∃g2:ON,(∀x,g2=some x->x < h.next)/\SlT enc w h g2 a l c L:=by
 by_cases hl:0 < l
 ·refine⟨g,fun x E=>?_,s⟩;subst E;have h0:=s.sl.mem
  cases a with
  | none=>simp at h0;omega
  | some a =>
   obtain⟨CS,G,_⟩:=h0.2 hl;exact G.glt wf
 ·refine⟨none,by simp,⟨s.sl.le,s.sl.len,?_⟩,s.len⟩;have h0:=s.sl.mem
  cases a with
  | none=>exact h0
  | some a=>exact⟨h0.1,fun O=>absurd O hl⟩
theorem SlT.nil(h:Hp)(g:ON):SlT enc w h g none 0 0 []:=⟨Sl.nil h w g,rfl⟩
theorem SlT.keep{S:NP}{h h':Hp}(k:Keep S h h'){g:ON}{a:OA}{l c:Nat}{L:List α}(s:SlT enc w h g a l c L)(E:∀x,g=some x->¬S x):SlT enc w h' g a l c L:=⟨s.sl.keep k E,s.len⟩
end
section
variable (P:Program)
structure AppT(t xt elem:TI)(w bytes:Nat):Prop where
 under:P.underlying t=some (.slice elem)
 info:∃i z,P.info? elem=some i/\i.size=w/\i.bytes=bytes/\i.zero=some z/\z.cells.size=w
 other:∃u,P.underlying xt=some u/\∀k,u≠.int k
 pos:0 < w
 bpos:0 < bytes
def Qi(t xt elem:TI)(w bytes:Nat):Bool :=
 (match P.underlying t with | some (.slice e)=>e==elem | _=>false) &&
 (match P.info? elem with
  | some i=>i.size==w&&i.bytes==bytes&&(match i.zero with | some z=>z.cells.size==w | none=>false)
  | none=>false) &&
 (match P.underlying xt with | some (.int _)=>false | some _=>true | none=>false)&&decide (0 < w)&&decide (0 < bytes)
theorem AppT.of{t xt elem:TI}{w bytes:Nat}(h:Qi P t xt elem w bytes=true):AppT P t xt elem w bytes:=by
 simp only[Qi,Uw,decide_eq_true_eq]at h;obtain⟨⟨⟨⟨E,G⟩,O⟩,W⟩,h5⟩:=h;refine⟨?_,?_,?_,W,h5⟩
 ·split at E
  ·rename_i e he;rw[he];simp at E;rw[E]
  ·simp at E
 ·split at G
  ·rename_i i hi
   simp only[Uw,beq_iff_eq]at G;obtain⟨⟨h6,h7⟩,U⟩:=G
   split at U
   ·rename_i z hz;exact⟨i,z,hi,h6,h7,hz,by simpa using U⟩
   ·simp at U
  ·simp at G
 ·split at O
  ·simp at O
  ·rename_i u V hu;exact⟨u,hu,fun k hk=>V k hk⟩
  ·simp at O
end
section
variable {P:Program}
theorem lR{h:Hp}{w:Nat}{g:ON}{a:OA}{l c:Nat}{cs:LV}(s:Sl h w g a l c cs):dC w (.slice a l c) h=some (l,cs):=by
 have h0:=s.mem;have hl:=s.len
 cases a with
 | none =>
  obtain⟨rfl,rfl⟩:=h0;simp at hl;subst hl;rfl
 | some a =>
  obtain⟨b,o,sp⟩:=a;obtain⟨V,h0⟩:=h0;simp only[dC];by_cases E:l=0
  ·subst E;simp at hl;subst hl;simp
  ·obtain⟨CS,G,O,U⟩:=h0 (by omega);simp only[E,if_false];rw[G.cells O,U];rfl
def Bd(h:Hp)(w:Nat)(S:NP)(a:OA)(l c:Nat)(cs:LV):Prop :=
 (a=none/\l=0/\c=0/\cs=[])\/∃b g,a=some ⟨b,0,some w⟩/\S g/\c=l/\0 < l/\cs.length=l * w/\Blk h b (some g) cs
theorem Bd.nil(h:Hp)(w:Nat)(S:NP):Bd h w S none 0 0 []:=.inl ⟨rfl,rfl,rfl,rfl⟩
theorem Bd.sl{h:Hp}{w:Nat}{S:NP}{a:OA}{l c:Nat}{cs:LV}(s:Bd h w S a l c cs):∃g:ON,(∀x,g=some x->S x)/\Sl h w g a l c cs:=by
 rcases s with ⟨rfl,rfl,rfl,rfl⟩ | ⟨b,g,rfl,O,rfl,V,E,U⟩
 ·exact⟨none,by simp,Sl.nil h w _⟩
 ·exact⟨some g,fun x G=>by simp at G;subst G;exact O,Uf _,E,.inr rfl,fun _=>⟨cs,U,by omega,by rw[<-E];simp⟩⟩
theorem Bd.slT{α:Type}{enc:α->LV}{h:Hp}{w:Nat}{S:NP}{a:OA}{l c:Nat}{L:List α}(s:Bd h w S a l c (L.flatMap enc))(hl:L.length=l):∃g:ON,(∀x,g=some x->S x)/\SlT enc w h g a l c L:=by
 obtain⟨g,E,G⟩:=s.sl;exact⟨g,E,G,hl⟩
theorem Bd.keep{S0 S:NP}{h h':Hp}(k:Keep S0 h h'){w:Nat}{a:OA}{l c:Nat}{cs:LV}(s:Bd h w S a l c cs)(O:∀x,S x->¬S0 x):Bd h' w S a l c cs:=by
 rcases s with E | ⟨b,g,rfl,E,rfl,U,V,W⟩
 ·exact .inl E
 ·exact .inr ⟨b,g,rfl,E,rfl,U,V,k.blk W fun x G=>by simp at G;subst G;exact O _ E⟩
theorem Bd.bound{h:Hp}(wf:Wf h){w:Nat}{S:NP}{a:OA}{l c:Nat}{cs:LV}(s:Bd h w S a l c cs):Bd h w (fun g=>S g/\g < h.next) a l c cs:=by
 rcases s with E | ⟨b,g,rfl,E,rfl,O,U,G⟩
 ·exact .inl E
 ·exact .inr ⟨b,g,rfl,⟨E,G.glt wf⟩,rfl,O,U,G⟩
theorem Bd.mono{h:Hp}{w:Nat}{S S':NP}{a:OA}{l c:Nat}{cs:LV}(s:Bd h w S a l c cs)(hs:∀g,S g->S' g):Bd h w S' a l c cs:=by
 rcases s with E | ⟨b,g,rfl,E,rfl,G,O,U⟩
 ·exact .inl E
 ·exact .inr ⟨b,g,rfl,hs g E,rfl,G,O,U⟩
theorem Bd.append{h:Hp}(wf:Wf h){t xt elem:TI}{w bytes:Nat}(G:AppT P t xt elem w bytes){S:NP}(hS:∀g,h.next<=g->S g){a:OA}{l c:Nat}{cs:LV}(s:Bd h w S a l c cs)
  {x:Value} {n:Nat} {new:LV} (V:dC w x h=some (n,new)) (E:new.length=n * w) (hv:new.all isCell=true) (hr:roomy (l+n) bytes=true) :
  ∃a' h',aQ P t xt (.slice a l c) x h=some (.slice a' (l+n) (l+n),h')/\Bd h' w S a' (l+n) (l+n) (cs++new)/\Keep S h h'/\Wf h':=by
 obtain⟨i,z,e1,e2,e3,e4,e5⟩:=G.info;obtain⟨u,e6,e7⟩:=G.other;have hp:=G.pos;have hb:=G.bpos;have W:c=l:=by rcases s with ⟨_,U,h2,_⟩ | ⟨_,_,_,_,U,_⟩ <;> omega
 subst W;have main:aQ P t xt (.slice a c c) x h=if n=0 then some (.slice a c c,h) else
   (match (Value.slice a c c) with
    | .slice none 0 0=>some (.slice (some ⟨h.next,0,some w⟩) n n,h.alloc new elem)
    | .slice (some ⟨b,o,sp⟩) l c =>
     if l+n<=c then(h.store b (o+l * w) new).map fun h'=>(.slice (some ⟨b,o,sp⟩) (l+n) c,h')
     else match sp with
      | none=>if l=0 then some (.slice (some ⟨h.next,0,some w⟩) n n,h.alloc new elem) else
       (h.cellsAt b o (l * w)).map fun old=>(.slice (some ⟨h.next,0,some w⟩) (l+n) (l+n),h.alloc (old++new) elem)
      | some k=>if k=w then(h.extend b o (o+l * w) new).map fun h'=>(.slice (some ⟨h.next,0,some w⟩) (l+n) (l+n),h') else none
    | _=>none):=by
  unfold aQ;rw[G.under]
  dsimp only
  rw[e1,e6];have aa:¬(w=0):=by omega
  have ac:¬(bytes=0):=by omega
  cases u with
  | int k=>exact absurd rfl (e7 k)
  | _ =>
   dsimp only
   rw[e2,V];by_cases O:n=0
   ·simp[O]
   ·simp only[O,if_false,JZ,e3,e4,e5,Uv,decide_true,Bool.not_true,hr,Bool.false_or,Bool.or_false,aa,ac,decide_false,VA]
    cases a <;> rfl
 rw[main];by_cases O:n=0
 ·subst O;have:new=[]:=by simpa using E
  subst this;simp only[if_true,Vk,VJ];exact⟨a,h,rfl,s,Keep.refl _ _,wf⟩
 ·simp only[O,if_false];rcases s with ⟨rfl,rfl,_,rfl⟩ | ⟨b,g,rfl,U,_,h2,h3,h4⟩
  ·simp only[Nat.zero_add,VH];exact⟨_,_,rfl,.inr ⟨_,h.next,rfl,hS _ (Uf _),rfl,by omega,E,lU wf new elem⟩,(jY wf new elem).mono wf fun _ _ hf=>hf.elim,oK wf new elem⟩
  ·simp only;rw[if_neg (by omega)];simp only[if_true,Nat.zero_add];obtain⟨h',g1,g2,g3,g4,g5,g6⟩:=h4.extend wf (o:=0) (e:=c * w) (new:=new) (by omega) (by omega) hv;rw[g1];refine⟨_,_,rfl,.inr ⟨_,g,rfl,U,rfl,by omega,?_,?_⟩,g4.mono wf (fun x _ V=>by subst V;exact U),g6⟩
   ·simp only[Ug,h3,E,Vb]
   ·have:(cs.drop 0).take (c * w - 0)=cs:=by rw[<-h3];simp
    rw[this]at g2;exact g2
theorem Bd.append1{h E:Hp}(wf:Wf h){t xt elem e:TI}{w bytes:Nat}(ht:AppT P t xt elem w bytes){S:NP}(hS:∀g,h.next<=g->S g){a:OA}{l c:Nat}{cs:LV}(s:Bd h w S a l c cs)
  {new:LV} (he:E=h.alloc new e) (G:new.length=w) (hv:new.all isCell=true) (hr:roomy (l+1) bytes=true) :
  ∃a' h',aQ P t xt (.slice a l c) (.slice (some ⟨h.next,0,none⟩) 1 1) E=some (.slice a' (l+1) (l+1),h')/\Bd h' w S a' (l+1) (l+1) (cs++new)/\Keep S h h'/\Wf h':=by
 subst he;have k:=jY wf new e;have O:=oK wf new e;have hb:=lU wf new e;have U:∀g,(h.alloc new e).next<=g->S g:=fun g V=>hS g (by rw[AA]at V;omega);have hd:dC w (.slice (some ⟨h.next,0,none⟩) 1 1) (h.alloc new e)=some (1,new):=by
  simp only[dC,Nat.one_mul];rw[hb.cells (by omega)];simp[<-G]
 obtain⟨a',h',E,h2,h3,h4⟩:=Bd.append O ht U (s.keep k fun _ _ W=>W) hd (by omega) hv hr;exact⟨a',h',E,h2,(k.mono wf (S':=S) fun _ _ W=>W.elim).trans wf h3 (fun _ _ V=>V),h4⟩
end
theorem aB{h E:Hp}(wf:Wf h){cs:LV}{e:TI}(he:E=h.alloc cs e):Blk E h.next (some h.next) cs/\Kept h E/\E.next=h.next+1/\Wf E:=by
 subst he;exact⟨lU wf cs e,jY wf cs e,rfl,oK wf cs e⟩
theorem bP{h E:Hp}(wf:Wf E){b:Nat}{cs vs:LV}(hb:Blk E b (some b) cs)(k:Kept h E)(G:Wf h)(hn:h.next<=b)(hl:vs.length=cs.length)(U:vs.all isCell=true):
  ∃h',E.store b 0 vs=some h'/\Blk h' b (some b) vs/\Kept h h'/\Keep (· = b) E h'/\h'.next=E.next/\Wf h':=by
 obtain⟨h',e1,e2,O,V,W⟩:=hb.store (o:=0) (vs:=vs) (by omega) U;refine⟨h',e1,?_,?_,O,V,W wf⟩
 ·have:splice cs 0 vs=vs:=by simp[splice,hl]
  rw[this]at e2;exact e2
 ·exact k.trans G O fun g hg hs=>by omega
theorem cF{a b:Int}(h0 : -9223372036854775808<=a+b)(E:a+b < 9223372036854775808):aG .i64 a b=a+b:=by
 unfold aG IntKind.wrap;simp[IntKind.bits,IntKind.signed]
 omega
theorem bY{a b:Int}(h0 : -9223372036854775808<=a - b)(E:a - b < 9223372036854775808):bB .i64 a b=a - b:=by
 unfold bB IntKind.wrap;simp[IntKind.bits,IntKind.signed]
 omega
theorem bM{n b:Nat}(h:(2 * n+1024) * b<=140737488355328):roomy n b=true:=by
 simp only[roomy,decide_eq_true_eq];exact h
theorem vV(s:BA):∀(n i:Nat) (r:LU),s.size - i=n->ByteArray.toList.loop s i r=r.reverse++s.data.toList.drop i
 | 0,i,r,G=>by
  unfold ByteArray.toList.loop;have:¬i < s.size:=by omega
  rw[if_neg this,VV (by have:s.data.toList.length=s.size:=VE;omega)];simp
 | n+1,i,r,G=>by
  unfold ByteArray.toList.loop;have hi:i < s.size:=by omega
  have E:i < s.data.toList.length:=by have:s.data.toList.length=s.size:=VE;omega
  rw[if_pos hi,vV s n (i+1) _ (by omega),WI E];have O:i < s.data.size:=hi;have:s.get! i=s.data.toList[i]:=by
   show s.data[i]! = _;rw[getElem!_pos s.data i O];simp
  rw[this];simp
theorem toList_eq(s:BA):s.toList=s.data.toList:=by
 unfold ByteArray.toList;rw[vV s _ 0 [] rfl];simp
theorem toList_inj{s u:BA}(h:s.toList=u.toList):s=u:=by
 rw[toList_eq,toList_eq]at h
 cases s;cases u;simp at h;rw[h]
theorem eq_iff(s u:BA):vW s u=true↔s=u:=by
 unfold vW;rw[beq_iff_eq];exact⟨toList_inj,fun h=>by rw[h]⟩
theorem Hy:∀(x y:LU),Op.bytesLess x y=decide (x < y)
 | [],[]=>by simp[Op.bytesLess]
 | _::_,[]=>by simp[Op.bytesLess]
 | [],_::_=>by simp[Op.bytesLess]
 | a::x,b::y=>by
  rw[Op.bytesLess,Hy x y];simp only[List.cons_lt_cons_iff];by_cases E:a < b <;> by_cases G:a=b <;> by_cases O:x < y <;> simp[E,G,O]
theorem lt_iff(s u:BA):Go.Cn.strLt s u=true↔s.toList < u.toList:=by simp[Go.Cn.strLt,Hy]
theorem lt_irrefl(s:BA):Go.Cn.strLt s s=false:=by
 rw[Bool.eq_false_iff];intro h;rw[lt_iff]at h;exact List.lt_irrefl _ h
theorem lt_trans{s u v:BA}(h:Go.Cn.strLt s u=true)(k:Go.Cn.strLt u v=true):Go.Cn.strLt s v=true:=by
 rw[lt_iff]at *;exact List.lt_trans h k
theorem Ma{s u:BA}(h:Go.Cn.strLt s u=false)(k:Go.Cn.strLt u s=false):s=u:=by
 rw[Bool.eq_false_iff]at h k;rw[Ne,lt_iff]at h k;exact toList_inj (List.le_antisymm (List.not_lt.mp k) (List.not_lt.mp h))
theorem lt_asymm{s u:BA}(h:Go.Cn.strLt s u=true):Go.Cn.strLt u s=false:=by
 rw[Bool.eq_false_iff];intro k;have:=lt_trans h k;rw[lt_irrefl]at this;exact absurd this (by simp)
section
variable (P:Program)
end
theorem VRel.pull{σ ac:Sg}(O:σ.le ac){v u:Value}(h:VRel σ v u):∀{v':Value},VRel ac v v'->VRel σ v v':=by
 induction h with
 | unk v=>intro v' _;exact .unk _
 | bool b=>intro v' E;rw[E.bool_inv];exact .bool b
 | int k n=>intro v' E;rw[E.int_inv];exact .int k n
 | float k n=>intro v' E;cases E;exact .float k n
 | complex k n m=>intro v' E;cases E;exact .complex k n m
 | string s=>intro v' E;rw[E.string_inv];exact .string s
 | nilFunc=>intro v' E;rw[E.nilFunc_inv];exact .nilFunc
 | nilIface=>intro v' E;rw[E.nilIface_inv];exact .nilIface
 | pnil=>intro v' E;rw[E.pnil_inv];exact .pnil
 | ptr b o e hb =>
  intro v' E;obtain⟨_,e',he,rfl⟩:=E.ptr_inv;have:=O _ _ hb;rw[this]at he;cases he;exact .ptr b o e hb
 | snil=>intro v' E;obtain⟨_,_,rfl⟩:=E.snil_inv;exact .snil
 | sexact b o l c e a hb hl V =>
  intro v' E
  cases E with
  | sexact b o l c e' a' U W aa =>
   have:=O _ _ hb;rw[this]at U;cases U;exact .sexact b o l c e a' hb W aa
 | sopen b o n l c c' e a hb hl hc V =>
  intro v' E
  cases E with
  | sopen b o n l c c2 e' a' U W ad aa =>
   have:=O _ _ hb;rw[this]at U;cases U;exact .sopen b o n l c c2 e a' hb W ad aa
 | mnil=>intro v' E;rw[E.mnil_inv];exact .mnil
 | map b e hb =>
  intro v' E;obtain⟨e',he,rfl⟩:=E.map_inv;have:=O _ _ hb;rw[this]at he;cases he;exact .map b e hb
 | yield l e hl =>
  intro v' E;obtain⟨e',he,rfl⟩:=E.yield_inv;have:=O _ _ hl;rw[this]at he;cases he;exact .yield l e hl
 | one b=>intro v' E;rw[E.one_inv];exact .one b
 | func fn a b a' b' hf V hb E h2 ae af =>
  intro v' h3;obtain⟨p,q,rfl,hp,hq⟩:=h3.func_inv hf;refine .func fn a b p q hf hp.1 hq.1 (fun i x y G hy=>?_) (fun i x y G hy=>?_)
  ·have hi:i < a'.size:=by rw[<-V];exact(VT.1 G).1
   exact ae i x _ G (Vq hi) (hp.2 i x y G hy)
  ·have hi:i < b'.size:=by rw[<-hb];exact(VT.1 G).1
   exact af i x _ G (Vq hi) (hq.2 i x y G hy)
 | iface t v v' hv ih=>intro w E;obtain⟨w',rfl,hw⟩:=E.iface_inv;exact .iface t v w' (ih hw)
 | agg a a' V E ih =>
  intro v' h3;obtain⟨p,rfl,hp⟩:=h3.agg_inv;refine .agg a p hp.1 fun i x y G hy=>?_;have hi:i < a'.size:=by rw[<-V];exact(VT.1 G).1
  exact ih i x _ G (Vq hi) (hp.2 i x y G hy)
 | tuple a a' V hn E ih =>
  intro v' h3;obtain⟨p,rfl,hp⟩:=h3.tuple_inv hn;refine .tuple a p hp.1 hn fun i x y G hy=>?_;have hi:i < a'.size:=by rw[<-V];exact(VT.1 G).1
  exact ih i x _ G (Vq hi) (hp.2 i x y G hy)
theorem ERel.pull{σ E:Sg}(G:σ.le E){es fs:List MapEntry}(h:ERel σ es fs):∀{gs:List MapEntry},ERel E es gs->ERel σ es gs:=by
 induction h with
 | nil=>intro gs O;cases O;exact .nil
 | cons x y l l' k1 U V _ W =>
  intro gs O
  cases O with
  | cons _ y' _ l2 m1 m2 m3 m4=>exact .cons x y' l l2 m1 (U.pull G m2) (V.pull G m3) (W m4)
theorem eM.pull{σ E:Sg}(G:σ.le E){tm:LV}{t1 t2:AV}(h:eM σ tm t1)(O:eM E tm t2):eM σ tm t2:=⟨O.1,fun i=>(h.2 i).pull G (O.2 i)⟩
theorem fY.pull{σ O:Sg}(G:σ.le O){o:Ob}{r0 r:Obj}(h:fY σ o r0)(E:fY O o r):fY σ o r:=by
 cases o with
 | cells cs t g=>cases r0 <;> exact h.elim
 | map es c =>
  cases r0 <;> first | exact h.elim | skip
  cases r <;> first | exact E.elim | skip
  exact⟨E.1,h.2.pull G E.2⟩
 | iter m since seen st =>
  cases r0 <;> first | exact h.elim | skip
  cases r <;> first | exact E.elim | skip
  refine⟨E.1,E.2.1,E.2.2.1,?_⟩;have a:=h.2.2.2;have b:=E.2.2.2
  cases m with
  | none=>exact b
  | some m =>
   obtain⟨e,U,_⟩:=a;obtain⟨e',V,W⟩:=b;have:=G _ _ U;rw[this]at V;cases V;exact⟨e,U,W⟩
 | loop l =>
  cases r0 <;> first | exact h.elim | skip
  cases r <;> first | exact E.elim | skip
  exact⟨E.1,E.2.1,h.2.2.1.pull G E.2.2.1,E.2.2.2⟩
structure Stay(h h':Hp):Prop where
 cell:∀b cs t g,h.ob b=some (.cells cs t g)->h.live b g=true->h'.ob b=some (.cells cs t g)/\h'.live b g=true
 oth:∀b o,h.ob b=some o->o.isOth=true->h'.ob b=some o
section
variable {P:Program}
theorem SCalls.trim{f:FuncId}{args:LV}{h:Hp}{K:KT}{K':Value->Prop}(hf:f < P.funcs.size)(W:SCalls P f args h K)(hk:∀v h',K v h'->Stay h h'/\plainV 100 v=true/\K' v):
  SCalls P f args h fun v h'=>K' v/\h'=h:=by
 have W:=W.func hf;refine .inl ⟨W.1,fun base σ w O hr hl=>(W.2 base σ w O hr hl).mono ?_⟩;rintro e w' ⟨v,v',h1,ae,rfl,aa,hv,U,he⟩;obtain⟨dN,hp,ac⟩:=hk _ _ aa;have ad:VRel σ v v':=(lZ σ 100 v hp).pull he.le hv;refine⟨v,v',h,σ,rfl,⟨ac,rfl⟩,ad,?_,?_⟩
 ·refine⟨Nat.le_trans hr.base_le he.size,fun b e hb=>⟨(hr.dom b e hb).1,Vj (hr.dom b e hb).2 he.size⟩,hr.fresh,?_,hr.grp,hr.gdom,hr.stack,hr.nest,hr.apart,?_⟩
  ·intro b e cs t g hb E V;obtain⟨q1,q2⟩:=dN.cell b cs t g E V;obtain⟨⟨c,el,fr,k1,k2,k3,k4,k5⟩,k6⟩:=U.cell b e cs t g (he.le _ _ hb) q1 q2;obtain⟨⟨c0,af,ag,m1,m2,m3,m4,m5⟩,m6⟩:=hr.cell b e cs t g hb E V;refine⟨⟨c,el,fr,k1,k2,k3,fun i x hx=>?_,k5⟩,k6⟩;obtain⟨x',n1,n2⟩:=k4 i x hx;obtain⟨x0,n3,n4⟩:=m4 i x hx;exact⟨x',n1,n4.pull he.le n2⟩
  ·intro b e o hb E G;obtain⟨p1,p2,⟨r0,p3,p4⟩,p5⟩:=hr.oth b e o hb E G;obtain⟨_,_,⟨r1,q3,q4⟩,_⟩:=U.oth b e o (he.le _ _ hb) (dN.oth b o E G) G;exact⟨p1,p2,⟨r1,q3,p4.pull he.le q4⟩,p5⟩
 ·exact⟨Sg.le_refl σ,he.os,he.tape,he.output,he.size,he.below,he.other,fun b e h1 h2=>by rw[h1]at h2;simp at h2,Uf _,fun b _ hb=>⟨rfl,rfl,hb⟩⟩
def TZ(P:Program)(nat:FuncId->LV->Hp->Option OV):Prop :=
 ∀f args h v,nat f args h=some (some v)->SCalls P f args h fun v' h'=>v'=v/\h'=h
variable (P)
variable {P}
end
section
variable (P:Program)
end
section
variable (P:Program)
end
section
variable (P:Program)
end
section
variable {P:Program}
end
section
variable {P:Program}
theorem SCalls.closed{f:FuncId}{h:Hp}{K:Value->Prop}(U:f < P.funcs.size)(O:SCalls P f [] Hp.empty fun v _=>K v)(G:∀v,K v->∃b,v = .bool b):SCalls P f [] h fun v h'=>K v/\h'=h:=by
 have O:=O.func U;refine .inl ⟨O.1,fun base σ w E hr hl=>?_⟩;have V:bK (fun _=>none) [] E.toList:=⟨hl.1,by simp⟩;refine(O.2 w.heap.size (fun _=>none) w E (AH _ w (Uf _)) V).mono ?_;rintro e w' ⟨v,v',h',cE,rfl,hv,W,_,he⟩;obtain⟨b,rfl⟩:=G v hv;have:v' = .bool b:=W.bool_inv;subst this;refine⟨_,_,h,σ,rfl,⟨hv,rfl⟩,.bool b,hr.grown he.size he.below,?_⟩;exact⟨Sg.le_refl σ,he.os,he.tape,he.output,he.size,fun k G=>he.below k (Vj G hr.base_le),fun k G _=>he.below k G,
  fun b e h1 h2=>by rw[h1]at h2;simp at h2,Uf _,fun b _ hb=>⟨rfl,rfl,hb⟩⟩
theorem Eo(hm:P.follows .mixedOrders=true){m n:Nat}{gX:FuncId->Nat->List Tmp}{f:FuncId}(E:f < P.funcs.size)
  (O:xF P (iY m) gX n f [] Hp.empty (fun v _=>match v with | .bool b=>b | _=>false)=true) (h:Hp):SCalls P f [] h fun v h'=>v = .bool true/\h'=h:=by
 refine SCalls.closed (K:=fun v=>v = .bool true) E ((Hd hm n f [] Hp.empty _ O).mono ?_) ?_
 ·intro v _ G
  cases v with
  | bool b=>simp at G;rw[G]
  | _=>simp at G
 ·rintro v rfl;exact⟨_,rfl⟩
end
end Go.Cn
