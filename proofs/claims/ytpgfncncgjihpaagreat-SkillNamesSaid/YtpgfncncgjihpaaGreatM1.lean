/- Parts of the proof, in build order. -/
import Derived.ProofKit
import Derived.LoopN
import Derived.Orders
import Derived.Laws.AppendOwn
import Derived.WalkKit
import Derived.Laws.StructEq
import Derived.Laws.MakeOwn
import Derived.Laws.AppendOwnNone
import Derived.Below
import Derived.Test.YtpgfncncgjihpaaGreatProg
import Derived.CallsIn
namespace Go.Proofs.YtpgfncncgjihpaaGreat
mutual
inductive Sh where
 |int (k:IntKind)
 |bool
 |str
 |recd (fs:Shs)
 |sl (e:Sh)
 /-- The entries of a map: no cells. -/
 |mp (k v:Sh)
inductive Shs where
 |nil
 |cons (s:Sh) (r:Shs)
end
mutual
def Sh.dec:(a b:Sh)→Decidable (a=b)
 |.int j,.int k=>if h:j=k then isTrue (by rw[h]) else isFalse (fun e=>h (by injection e))
 |.bool,.bool=>isTrue rfl
 |.str,.str=>isTrue rfl
 |.recd a,.recd b=>match Shs.dec a b with
  |isTrue h=>isTrue (by rw[h])
  |isFalse h=>isFalse (fun e=>h (by injection e))
 |.sl a,.sl b=>match Sh.dec a b with
  |isTrue h=>isTrue (by rw[h])
  |isFalse h=>isFalse (fun e=>h (by injection e))
 |.mp a b,.mp c d=>match Sh.dec a c,Sh.dec b d with
  |isTrue h,isTrue h'=>isTrue (by rw[h,h'])
  |isFalse h,_=>isFalse (fun e=>h (by injection e))
  |_,isFalse h=>isFalse (fun e=>h (by injection e))
 |.int _,.mp _ _|.bool,.mp _ _|.str,.mp _ _|.recd _,.mp _ _|.sl _,.mp _ _=>isFalse (fun e=>by cases e)
 |.mp _ _,.int _|.mp _ _,.bool|.mp _ _,.str|.mp _ _,.recd _|.mp _ _,.sl _=>isFalse (fun e=>by cases e)
 |.int _,.bool|.int _,.str|.int _,.recd _|.int _,.sl _=>isFalse (fun e=>by cases e)
 |.bool,.int _|.bool,.str|.bool,.recd _|.bool,.sl _=>isFalse (fun e=>by cases e)
 |.str,.int _|.str,.bool|.str,.recd _|.str,.sl _=>isFalse (fun e=>by cases e)
 |.recd _,.int _|.recd _,.bool|.recd _,.str|.recd _,.sl _=>isFalse (fun e=>by cases e)
 |.sl _,.int _|.sl _,.bool|.sl _,.str|.sl _,.recd _=>isFalse (fun e=>by cases e)
def Shs.dec:(a b:Shs)→Decidable (a=b)
 |.nil,.nil=>isTrue rfl
 |.cons a r,.cons b q=>match Sh.dec a b,Shs.dec r q with
  |isTrue h,isTrue h'=>isTrue (by rw[h,h'])
  |isFalse h,_=>isFalse (fun e=>h (by injection e))
  |_,isFalse h=>isFalse (fun e=>h (by injection e))
 |.nil,.cons _ _=>isFalse (fun e=>by cases e)
 |.cons _ _,.nil=>isFalse (fun e=>by cases e)
end
instance:DecidableEq Sh:=Sh.dec
mutual
def Sh.ty:Sh→Type
 |.int _=>Int
 |.bool=>Bool
 |.str=>ByteArray
 |.recd fs=>fs.ty
 |.sl e=>List e.ty
 |.mp k v=>k.ty × v.ty
def Shs.ty:Shs→Type
 |.nil=>Unit
 |.cons s r=>s.ty × r.ty
end
mutual
def Sh.dflt:(s:Sh)→s.ty
 |.int _=>(0:Int)
 |.bool=>false
 |.str=>ByteArray.empty
 |.recd fs=>fs.dflt
 |.sl _=>[]
 |.mp k v=>(k.dflt,v.dflt)
def Shs.dflt:(fs:Shs)→fs.ty
 |.nil=>()
 |.cons s r=>(s.dflt,r.dflt)
end
mutual
def Sh.size:Sh→Nat
 |.int _=>1
 |.bool=>1
 |.str=>1
 |.recd fs=>fs.size
 |.sl _=>1
 |.mp _ _=>0
def Shs.size:Shs→Nat
 |.nil=>0
 |.cons s r=>s.size+r.size
end
inductive AVal where
 |any
 |undef
 |int (k:IntKind) (n:Int)
 |bool (b:Bool)
 |str (s:ByteArray)
 |agg (cs:List AVal)
 |nils
 |ro (e:Sh) (xs:List e.ty)
 |rp (cs:List AVal)
 |own (i:Nat)
 |op (i off:Nat)
 |oe (i ix off:Nat)
 |fn (f:FuncId) (caps:List AVal)
 |tup (vs:List AVal)
 |ifc (t:TypeId) (v:AVal)
 |nilif
 |nilfn
 |nilmp
 |nilpt
 /-- What a range over a function calls at each round. -/
 |yld (i:Nat)
mutual
def Sh.cells:(s:Sh)→s.ty→List AVal
 |.int k,n=>[.int k n]
 |.bool,b=>[.bool b]
 |.str,s=>[.str s]
 |.recd fs,x=>fs.cells x
 |.sl e,xs=>[.ro e xs]
 |.mp _ _,_=>[]
def Shs.cells:(fs:Shs)→fs.ty→List AVal
 |.nil,_=>[]
 |.cons s r,x=>s.cells x.1++r.cells x.2
end
def Sh.val (s:Sh) (x:s.ty):AVal:=
 match s,x with
 |.int k,n=>.int k n
 |.bool,b=>.bool b
 |.str,t=>.str t
 |.recd fs,x=>.agg (fs.cells x)
 |.sl e,xs=>.ro e xs
 |.mp _ _,_=>.any
def takeInt (k:IntKind):List AVal→Option (Int × List AVal)
 |.int j n::r=>if j=k then some (n,r) else none
 |_=>none
def takeBool:List AVal→Option (Bool × List AVal)
 |.bool b::r=>some (b,r)
 |_=>none
def takeStr:List AVal→Option (ByteArray × List AVal)
 |.str t::r=>some (t,r)
 |_=>none
def takeRo (e:Sh):List AVal→Option (List e.ty × List AVal)
 |.ro d xs::r=>if h:d=e then some (h▸xs,r) else none
 |.nils::r=>some ([],r)
 |_=>none
mutual
def Sh.of:(s:Sh)→List AVal→Option (s.ty × List AVal)
 |.int k,cs=>takeInt k cs
 |.bool,cs=>takeBool cs
 |.str,cs=>takeStr cs
 |.recd fs,cs=>fs.of cs
 |.sl e,cs=>takeRo e cs
 |.mp _ _,_=>none
def Shs.of:(fs:Shs)→List AVal→Option (fs.ty × List AVal)
 |.nil,cs=>some ((),cs)
 |.cons s q,cs=>
  match s.of cs with
  |none=>none
  |some (x,r)=>
   match q.of r with
   |none=>none
   |some (y,r')=>some ((x,y),r')
end
def Sh.all (s:Sh) (cs:List AVal):Option s.ty:=
 match s.of cs with
 |some (x,[])=>some x
 |_=>none
def Sh.many (s:Sh):Nat→List AVal→Option (List s.ty)
 |0,[]=>some []
 |0,_::_=>none
 |n+1,cs=>
  match s.of cs with
  |none=>none
  |some (x,r)=>
   match s.many n r with
   |none=>none
   |some l=>some (x::l)
inductive ABlk where
 |dead
 /-- A place that is kept for a block to come: no value names it. -/
 |free
 |box (wr:Bool) (cs:List AVal)
 |row (wr:Bool) (t:TypeId) (e:Sh) (xs:List e.ty)
 /-- A range over a function that is going on. -/
 |lp (st:LoopState) (pend:Option Code) (tmps:List AVal) (ps:List Nat) (assign body:Code)
structure AS where
 tmps:List AVal
 heap:List ABlk
def AVal.scalar:AVal→Bool
 |.any|.undef|.agg _|.tup _=>false
 |_=>true
def AVal.cells:AVal→List AVal
 |.agg cs=>cs
 |v=>[v]
def ofScalar:Value→AVal
 |.int k n=>.int k n
 |.bool b=>.bool b
 |.string s=>.str s
 |.slice none 0 0=>.nils
 |.nilIface=>.nilif
 |.nilFunc=>.nilfn
 |.map none=>.nilmp
 |.pointer none=>.nilpt
 |_=>.any
def ofValue:Value→AVal
 |.agg cs=>.agg (cs.toList.map ofScalar)
 |v=>ofScalar v
def AS.get (s:AS) (t:Nat):AVal:=s.tmps.getD t .any
def AS.ev (s:AS):Operand→AVal
 |.tmp t=>s.get t
 |.const v=>ofValue v
 |.func f=>.fn f []
 |.global _=>.any
def AS.put (s:AS) (dst:Option Nat) (v:AVal):AS:=
 match dst with
 |some d=>{ s with tmps:=s.tmps.set d v }
 |none=>s
def List.overAt {α:Type}:List α→Nat→List α→List α
 |l,_,[]=>l
 | [],_,_=>[]
 |_::l,0,v::vs=>v::List.overAt l 0 vs
 |x::l,n+1,vs=>x::List.overAt l n vs
inductive TyD where
 |int (k:IntKind)
 |bool
 |str
 |sl (e:TypeId)
 |arr (n:Nat) (e:TypeId)
 |recd (fs:List (Nat × TypeId))
 |map (k v:TypeId)
 |ifc
 |other
structure TyE where
 d:TyD
 size:Nat
 bytes:Nat
 zero:Option AVal
 sh:Option Sh
mutual
def Sh.eqb:(s:Sh)→s.ty→s.ty→Bool
 |.int _,a,b=>@BEq.beq Int _ a b
 |.bool,a,b=>@BEq.beq Bool _ a b
 |.str,a,b=>@BEq.beq ByteArray _ a b
 |.recd fs,a,b=>fs.eqb a b
 |_,_,_=>false
def Shs.eqb:(fs:Shs)→fs.ty→fs.ty→Bool
 |.nil,_,_=>true
 |.cons s r,a,b=>s.eqb a.1 b.1&&r.eqb a.2 b.2
end
def mpFind (k v:Sh) (q:k.ty):List (k.ty × v.ty)→Option v.ty
 | []=>none
 |p::r=>bif k.eqb q p.1 then some p.2 else mpFind k v q r
def mpPut (k v:Sh) (q:k.ty) (y:v.ty):List (k.ty × v.ty)→List (k.ty × v.ty)
 | []=>[(q,y)]
 |p::r=>bif k.eqb q p.1 then (q,y)::r else p::mpPut k v q y r
abbrev Tab:=List (Nat × TyE)
def Tab.at:Tab→TypeId→Option TyE
 | [],_=>none
 |(u,e)::r,t=>if t=u then some e else Tab.at r t
def Tab.und (T:Tab) (t:TypeId):Option TyD:=match T.at t with|some e=>some e.d|none=>none
def Tab.size (T:Tab) (t:TypeId):Nat:=match T.at t with|some e=>e.size|none=>0
def Tab.bytes (T:Tab) (t:TypeId):Nat:=match T.at t with|some e=>e.bytes|none=>0
def Tab.zero (T:Tab) (t:TypeId):Option AVal:=match T.at t with|some e=>e.zero|none=>none
def Tab.sh (T:Tab) (t:TypeId):Option Sh:=match T.at t with|some e=>e.sh|none=>none
inductive AOut where
 |ret (v:AVal)
 |pan (v:AVal)
def Fsp:Type 1:=(α:Type)→List AVal→(AOut→Option α)→Option α
inductive LRes (σ α:Type) where
 |cont (x:σ)
 |brk (id:Nat) (x:σ)
 |fin (a:α)
def iterL {σ α:Type}:Nat→(σ→Option (LRes σ α))→σ→Option (LRes σ α)
 |0,_,_=>none
 |n+1,f,x=>
  match f x with
  |some (.cont y)=>iterL n f y
  |r=>r
def afterL {σ α:Type} (r:Option (LRes σ α)) (k:Nat→σ→Option α):Option α:=
 match r with
 |some (.brk id y)=>k id y
 |some (.fin a)=>some a
 |_=>none
def finL {σ α:Type}:Option α→Option (LRes σ α)
 |some a=>some (.fin a)
 |none=>none
structure Comb where
 part:{α:Type}→Bool→Option α→Option α→Option α
 iff:{α:Type}→(p:Prop)→Decidable p→Option α→Option α→Option α
 fin:{σ α:Type}→Option α→Option (LRes σ α)
 loop:{σ α:Type}→Nat→(σ→Option (LRes σ α))→σ→(Nat→σ→Option α)→Option α
def real:Comb where
 part b x y:=bif b then x else y
 iff p _ x y:=if p then x else y
 fin o:=finL o
 loop N f x k:=afterL (iterL N f x) k
inductive AExit where
 |normal
 |exit (id:Nat)
 |ret
 |pan (v:AVal)
def Cv:Type 1:=(α:Type)→AVal→List AVal→List ABlk→(AExit→AVal→List ABlk→Option α)→Option α
structure Env where
 fs:FuncId→Option Fsp
 pr:FuncId→Bool
 cv:Cv
 /-- What a call that is gone into does not see,in a region that draws its order; what it does not write. -/
 msk:List Nat:=[]
 lck:List Nat:=[]
def Env.nz (env:Env):Bool:=env.pr 999983&&!env.pr 999979
def Env.few (env:Env):Bool:=env.pr 999983&&!env.pr 999961
def Env.inn (env:Env) (f:FuncId):Bool:=env.few&&!env.pr (2000000+f)
def peek0 (h:List ABlk):AVal→Option AVal
 |.own i=>
  match h.getD i .dead with
  |.row _ _ e xs=>if 0<e.size then some (.ro e xs) else none
  |_=>none
 |.fn f []=>some (.fn f [])
 |.int k n=>some (.int k n)
 |.bool b=>some (.bool b)
 |.str s=>some (.str s)
 |.nils=>some .nils
 |.ro e xs=>some (.ro e xs)
 |.nilif=>some .nilif
 |.nilfn=>some .nilfn
 |.nilmp=>some .nilmp
 |.nilpt=>some .nilpt
 |_=>none
def peekL (f:AVal→Option AVal):List AVal→Option (List AVal)
 | []=>some []
 |v::r=>
  match f v with
  |none=>none
  |some u=>
   match peekL f r with
   |none=>none
   |some us=>some (u::us)
def AVal.pure0:AVal→Bool
 |.int _ _|.bool _|.str _|.nils|.ro _ _|.nilif|.nilfn|.nilmp|.nilpt=>true
 |.fn _ []=>true
 |_=>false
def peekC (h:List ABlk):AVal→Option AVal
 |.rp cs=>if cs.all AVal.pure0=true then some (.rp cs) else none
 |v=>peek0 h v
def peek1 (h:List ABlk):AVal→Option AVal
 |.agg cs=>
  match peekL (peek0 h) cs with
  |some us=>some (.agg us)
  |none=>none
 |.fn f cs=>
  match peekL (peekC h) cs with
  |some us=>some (.fn f us)
  |none=>none
 |v=>peek0 h v
def AVal.named0:AVal→List Nat
 |.own i=>[i]
 |_=>[]
def AVal.named1:AVal→List Nat
 |.agg cs=>cs.flatMap AVal.named0
 |.fn _ cs=>cs.flatMap AVal.named0
 |v=>v.named0
def AVal.flat0:AVal→Bool
 |.int _ _|.bool _|.str _|.nils|.nilif|.nilfn|.nilmp|.nilpt=>true
 |_=>false
def AVal.flat1:AVal→Bool
 |.agg cs=>cs.all AVal.flat0
 |v=>v.flat0
def AVal.flat2:AVal→Bool
 |.tup vs=>vs.all AVal.flat1
 |.ifc _ v=>v.flat1
 |v=>v.flat1
def peekP (h:List ABlk):AVal→Option AVal
 |.op i off=>
  match h.getD i .dead with
  |.box _ cs=>if cs.all AVal.pure0=true then some (.rp (cs.drop off)) else none
  |_=>none
 |v=>peek1 h v
def AVal.namedP:AVal→List Nat
 |.op i _=>[i]
 |v=>v.named1
def peek2 (h:List ABlk):AVal→Option AVal
 |.tup vs=>
  match peekL (peek1 h) vs with
  |some us=>some (.tup us)
  |none=>none
 |.ifc t v=>
  match peek1 h v with
  |some u=>some (.ifc t u)
  |none=>none
 |.fn f cs=>
  match peekL (peekP h) cs with
  |some us=>some (.fn f us)
  |none=>none
 |v=>peek1 h v
def AVal.named2:AVal→List Nat
 |.tup vs=>vs.flatMap AVal.named1
 |.ifc _ v=>v.named1
 |.fn _ cs=>cs.flatMap AVal.namedP
 |v=>v.named1
def killAll:List ABlk→List Nat→Option (List ABlk)
 |h,[]=>some h
 |h,i::r=>
  match h.getD i .dead with
  |.row true _ _ _=>killAll (h.set i .dead) r
  |_=>none
def Env.frz (env:Env):Bool:=env.few&&!env.pr 999953
def Env.nrw (env:Env):Bool:=env.few&&!env.pr 999947
def Env.apz (env:Env):Bool:=env.few&&!env.pr 999949
def Env.frt (env:Env):Bool:=env.few&&!env.pr 999937
def Env.sts (env:Env):Bool:=env.few&&!env.pr 999929
def frz0 (h0 h:List ABlk):AVal→AVal
 |.own i=>
  match h.getD i .dead,h0.getD i .dead with
  |.dead,.row _ _ e xs=>if 0<e.size then .ro e xs else .own i
  |_,_=>.own i
 |v=>v
def frzB (h0 h:List ABlk):ABlk→ABlk
 |.box true cs=>.box true (cs.map (frz0 h0 h))
 |b=>b
def frzH (h0 h:List ABlk):List ABlk:=h.map (frzB h0 h)
def killZ (fz:Bool) (h0:List ABlk) (is:List Nat):Option (List ABlk):=
 bif fz then (match killAll h0 is with|some h=>some (frzH h0 h)|none=>none) else killAll h0 is
def dedup:List Nat→List Nat
 | []=>[]
 |x::r=>if r.contains x then dedup r else x::dedup r
def okAgg:AVal→Sh→Bool
 |.agg _,.recd _=>true
 |.agg _,_=>false
 |_,.recd _=>false
 |_,_=>true
def exV (h:List ABlk) (s:Sh) (v:AVal):Option s.ty:=
 match peek1 h v with
 |some u=>bif okAgg u s then s.all u.cells else none
 |none=>none
def oneT (T:Tab) (t:TypeId):Sh→Bool
 |.int k=>(match T.und t with|some (.int j)=>decide (j=k)|_=>false)
 |.bool=>(match T.und t with|some .bool=>true|_=>false)
 |.str=>(match T.und t with|some .str=>true|_=>false)
 |_=>false
def flatF (T:Tab):List (Nat × TypeId)→Shs→Nat→Bool
 | [],.nil,_=>true
 |(off,t)::r,.cons s q,n=>decide (off=n)&&oneT T t s&&flatF T r q (n+1)
 |_,_,_=>false
def keyB (T:Tab) (t:TypeId):Sh→Bool
 |.recd fs=>(match T.und t with
  |some (.recd l)=>flatF T l fs 0
  |some (.arr n e)=>decide (T.size e=1)&&flatF T ((List.range n).map fun i=>(i,e)) fs 0
  |_=>false)
 |_=>false
section
variable (C:Comb) (T:Tab) {α:Type}
def cellsAt (h:List ABlk):AVal→Option (List AVal)
 |.op i off=>
  match h.getD i .dead with
  |.box _ cs=>some (cs.drop off)
  |_=>none
 |.rp cs=>some cs
 |.oe i ix off=>
  match h.getD i .dead with
  |.row _ _ e xs=>if 0<e.size then some ((e.cells (xs.getD ix e.dflt)).drop off) else none
  |_=>none
 |_=>none
def isAggT (t:TypeId):Option Bool:=
 match T.und t with
 |some (.recd _)=>some true
 |some (.arr _ _)=>some true
 |some _=>some false
 |none=>none
def packT (t:TypeId) (cs:List AVal):Option AVal:=
 match isAggT T t with
 |some true=>if T.size t≤cs.length then some (.agg (cs.take (T.size t))) else none
 |some false=>
  match cs with
  |c::_=>some c
  | []=>none
 |none=>none
def evStore (t:TypeId) (a v:AVal) (h:List ABlk) (k:List ABlk→Option α):Option α:=
 if v.cells.length=T.size t∧0<T.size t then
  if v.cells.all AVal.scalar then
   match a with
   |.op i off=>
    match h.getD i .dead with
    |.box true cs=>if off+v.cells.length≤cs.length then k (h.set i (.box true (List.overAt cs off v.cells))) else none
    |_=>none
   |.oe i ix off=>
    match h.getD i .dead with
    |.row true t' e xs=>
     if off+v.cells.length≤e.size then
      match e.all (List.overAt (e.cells (xs.getD ix e.dflt)) off v.cells) with
      |some y=>k (h.set i (.row true t' e (xs.set ix y)))
      |none=>none
     else none
    |_=>none
   |_=>none
  else none
 else none
def AS.new (s:AS) (b:ABlk):AS:={ s with heap:=s.heap++[b] }
def eqFs (f:TypeId→AVal→AVal→Option Bool) (xs ys:List AVal):List (Nat × TypeId)→Option Bool
 | []=>some true
 |(off,t)::r=>
  match packT T t (xs.drop off),packT T t (ys.drop off) with
  |some a,some b=>
   match f t a b,eqFs f xs ys r with
   |some p,some q=>some (p&&q)
   |_,_=>none
  |_,_=>none
def eqT:Nat→TypeId→AVal→AVal→Option Bool
 |0,_,_,_=>none
 |n+1,t,x,y=>
  match T.und t,x,y with
  |some (.int _),.int j a,.int i b=>if j=i then some (a==b) else none
  |some .bool,.bool a,.bool b=>some (a==b)
  |some .str,.str a,.str b=>some (a==b)
  |some (.recd fs),.agg xs,.agg ys=>eqFs T (eqT n) xs ys fs
  |some (.arr m e),.agg xs,.agg ys=>
   match T.und e with
   |some _=>eqFs T (eqT n) xs ys ((List.range m).map fun i=>(i*T.size e,e))
   |none=>none
  |_,_,_=>none
def evBin (op:BinOp) (t:TypeId) (x y:AVal) (k:AVal→Option α):Option α:=
 match x,y with
 |.int j a,.int i b=>
  match op with
  |.shl=>C.iff (b<0) inferInstance none (k (.int j (j.wrap (a*2^(min b.toNat j.bits)))))
  |.shr=>C.iff (b<0) inferInstance none (k (.int j (a.fdiv (2^(min b.toNat j.bits)))))
  |_=>
   if j=i then
    match op with
    |.add=>k (.int j (j.wrap (a+b)))
    |.sub=>k (.int j (j.wrap (a-b)))
    |.mul=>k (.int j (j.wrap (a*b)))
    |.quo=>C.iff (b=0) inferInstance none (k (.int j (j.wrap (a.tdiv b))))
    |.rem=>C.iff (b=0) inferInstance none (k (.int j (a.tmod b)))
    |.and=>k (.int j (j.wrap (BitVec.ofInt j.bits a &&& BitVec.ofInt j.bits b).toNat))
    |.or=>k (.int j (j.wrap (BitVec.ofInt j.bits a ||| BitVec.ofInt j.bits b).toNat))
    |.xor=>k (.int j (j.wrap (BitVec.ofInt j.bits a ^^^ BitVec.ofInt j.bits b).toNat))
    |.eql=>k (.bool (a==b))
    |.neq=>k (.bool (a != b))
    |.lss=>k (.bool (decide (a<b)))
    |.leq=>k (.bool (decide (a≤b)))
    |.gtr=>k (.bool (decide (a>b)))
    |.geq=>k (.bool (decide (a≥b)))
    |_=>none
   else none
 |.bool a,.bool b=>
  match T.und t with
  |some .bool=>
   match op with
   |.eql=>k (.bool (a==b))
   |.neq=>k (.bool (!(a==b)))
   |_=>none
  |_=>none
 |.str a,.str b=>
  match T.und t with
  |some .str=>
   match op with
   |.eql=>k (.bool (a==b))
   |.neq=>k (.bool (!(a==b)))
   |_=>none
  |_=>none
 |.agg a,.agg b=>
  match op with
  |.eql=>
   match eqT T 20 t (.agg a) (.agg b) with
   |some q=>k (.bool q)
   |none=>none
  |.neq=>
   match eqT T 20 t (.agg a) (.agg b) with
   |some q=>k (.bool (!q))
   |none=>none
  |_=>none
 |.ro _ xs,.nils=>
  match T.und t with
  |some (.sl _)=>
   match op with
   |.eql=>C.iff (0<xs.length) inferInstance (k (.bool false)) none
   |.neq=>C.iff (0<xs.length) inferInstance (k (.bool true)) none
   |_=>none
  |_=>none
 |.nils,.nils=>
  match T.und t with
  |some (.sl _)=>
   match op with
   |.eql=>k (.bool true)
   |.neq=>k (.bool false)
   |_=>none
  |_=>none
 |_,_=>none
def evUn (op:UnOp) (x:AVal) (k:AVal→Option α):Option α:=
 match op,x with
 |.not,.bool b=>k (.bool (!b))
 |.neg,.int j n=>k (.int j (j.wrap (0-n)))
 |_,_=>none
def fillC (place:Nat→Option (Nat × Nat)):List AVal→List (Nat × AVal)→Option (List AVal)
 |cs,[]=>some cs
 |cs,(i,v)::r=>
  match place i with
  |none=>none
  |some (off,size)=>
   if v.cells.all AVal.scalar=true∧v.cells.length=size∧off+v.cells.length≤cs.length then fillC place (List.overAt cs off v.cells) r else none
def placeAt (fs:List (Nat × TypeId)) (i:Nat):Option (Nat × Nat):=
 match fs[i]? with
 |some f=>some (f.1,T.size f.2)
 |none=>none
def placesOf (t:TypeId):Option (Nat→Option (Nat × Nat)):=
 match T.und t with
 |some (.recd fs)=>if fs.all (fun f=>(T.at f.2).isSome) then some (placeAt T fs) else none
 |some (.arr _ e)=>if (T.at e).isSome then some (fun i=>some (i*T.size e,T.size e)) else none
 |_=>none
def evLen (h:List ABlk) (x:AVal):Option Int:=
 match x with
 |.ro _ xs=>some xs.length
 |.nils=>some 0
 |.str s=>some s.size
 |.own i=>
  match h.getD i .dead with
  |.row _ _ e xs=>if 0<e.size then some xs.length else none
  |_=>none
 |_=>none
def minI:List AVal→Int→Option Int
 | [],x=>some x
 |.int _ y::r,x=>minI r (if y<x then y else x)
 |_,_=>none
def maxI:List AVal→Int→Option Int
 | [],x=>some x
 |.int _ y::r,x=>maxI r (if x<y then y else x)
 |_,_=>none
def room:Nat:=140737488355328
def rowOf (h:List ABlk) (t:TypeId):AVal→Option ((e:Sh) × List e.ty × List ABlk)
 |.own i=>
  match h.getD i .dead with
  |.row true t' e xs=>if t'=t∧0<e.size then some ⟨e,xs,h.set i .dead⟩ else none
  |_=>none
 |.nils=>
  match T.sh t with
  |some e=>if T.size t=e.size then some ⟨e,[],h⟩ else none
  |none=>none
 |_=>none
def asRo (h:List ABlk):AVal→Option ((e:Sh) × List e.ty)
 |.ro e xs=>some ⟨e,xs⟩
 |.own i=>
  match h.getD i .dead with
  |.row _ _ e xs=>if 0<e.size then some ⟨e,xs⟩ else none
  |_=>none
 |_=>none
def evAppend (t:TypeId) (x y:AVal) (h0:List ABlk) (k:AVal→List ABlk→Option α):Option α:=
 match T.und t with
 |some (.sl et)=>
  if T.bytes et=0 then none else
  match rowOf T h0 et x with
  |none=>none
  |some ⟨e,xs,h⟩=>
   if (T.size et=e.size∧0<e.size)∧(T.zero et).isSome∧((T.zero et).getD .any).cells.all AVal.scalar=true∧((T.zero et).getD .any).cells.length=e.size then
    match y with
    |.nils=>k (.own h.length) (h++[.row true et e xs])
    |y=>
     match asRo h0 y with
     |none=>none
     |some ⟨d,ys⟩=>
      if hd:d=e then
       C.iff ((xs.length+ys.length)*T.bytes et≤room) inferInstance (k (.own h.length) (h++[.row true et e (xs++hd▸ys)])) none
      else none
   else none
 |_=>none
def evMake (t:TypeId) (l c:AVal) (h:List ABlk) (k:AVal→List ABlk→Option α):Option α:=
 match T.und t,l,c with
 |some (.sl et),.int .i64 n,.int .i64 m=>
  match T.sh et,T.zero et with
  |some e,some z=>
   if T.size et=e.size∧0<e.size∧T.bytes et≠0 then
    match e.all z.cells with
    |some y=>C.iff (0≤n∧n≤m∧m*T.bytes et≤room) inferInstance (k (.own h.length) (h++[.row true et e (List.replicate n.toNat y)])) none
    |none=>none
   else none
  |_,_=>none
 |_,_,_=>none
def evCut (et:TypeId) (lo hi:Option AVal) (e:Sh) (xs:List e.ty) (h:List ABlk) (k:AVal→List ABlk→Option α):Option α:=
 if T.size et=e.size∧0<e.size then
  match lo,hi with
  |none,none=>k (.ro e xs) h
  |some (.int _ l),none=>C.iff (0≤l∧l≤xs.length) inferInstance (k (.ro e (xs.drop l.toNat)) h) none
  |none,some (.int _ n)=>C.iff (0≤n∧n≤xs.length) inferInstance (k (.ro e (xs.take n.toNat)) h) none
  |some (.int _ l),some (.int _ n)=>C.iff (0≤l∧l≤n∧n≤xs.length) inferInstance (k (.ro e ((xs.take n.toNat).drop l.toNat)) h) none
  |_,_=>none
 else none
def evSlice (dr:Bool) (t:TypeId) (x:AVal) (lo hi:Option AVal) (h:List ABlk) (k:AVal→List ABlk→Option α):Option α:=
 match T.und t with
 |some (.sl et)=>
  match x with
  |.ro e xs=>evCut C T et lo hi e xs h k
  |.own i=>
   match h.getD i .dead with
   |.row true _ e xs=>bif dr then none else evCut C T et lo hi e xs (h.set i .dead) k
   |_=>none
  |_=>none
 |_=>none
def AVal.livePtr (h:List ABlk):AVal→Bool
 |.op i _=>match h.getD i .dead with
  |.box _ _=>true
  |_=>false
 |.oe i _ _=>match h.getD i .dead with
  |.row _ _ e _=>decide (0<e.size)
  |_=>false
 |.rp _=>true
 |_=>false
def byIdx (n:Int) (k:Nat→Option α):(m i:Nat)→Option α
 |0,_=>none
 |m+1,i=>C.part (n==(i:Int)) (k i) (byIdx n k m (i+1))
theorem byIdx_real {α:Type} (n:Int) (k:Nat→Option α) (m i:Nat):byIdx real n k (m+1) i=bif n==(i:Int) then k i else byIdx real n k m (i+1):=rfl
def evIndexAddr (t:TypeId) (x iv:AVal) (h:List ABlk) (k:AVal→Option α):Option α:=
 match iv with
 |.int _ n=>
  match T.und t with
  |some (.sl et)=>
   match x with
   |.ro e xs=>if T.size et=e.size∧0<e.size then (C.iff (0≤n∧n<xs.length) inferInstance (k (.rp (e.cells (xs.getD n.toNat e.dflt)))) none) else none
   |.own i=>
    match h.getD i .dead with
    |.row _ _ e xs=>if T.size et=e.size∧0<e.size then (C.iff (0≤n∧n<xs.length) inferInstance (k (.oe i n.toNat 0)) none) else none
    |_=>none
   |_=>none
  |some (.arr m et)=>
   C.iff (0≤n∧n<m) inferInstance
    (bif T.size et==0 then none else bif !(x.livePtr h) then none else
    match x with
    |.op i off=>byIdx C n (fun q=>k (.op i (off+q*T.size et))) m 0
    |.rp cs=>byIdx C n (fun q=>k (.rp (cs.drop (q*T.size et)))) m 0
    |.oe i ix off=>byIdx C n (fun q=>k (.oe i ix (off+q*T.size et))) m 0
    |_=>none)
    none
  |_=>none
 |_=>none
def evFieldAddr (t:TypeId) (x:AVal) (f:Nat) (h:List ABlk) (k:AVal→Option α):Option α:=
 match T.und t with
 |some (.recd fs)=>
  match fs[f]? with
  |some fd=>
   if T.size fd.2=0 then none else
   bif !(x.livePtr h) then none else
   match x with
   |.op i off=>k (.op i (off+fd.1))
   |.rp cs=>k (.rp (cs.drop fd.1))
   |.oe i ix off=>k (.oe i ix (off+fd.1))
   |_=>none
  |none=>none
 |_=>none
def evField (t:TypeId) (x:AVal) (f:Nat):Option AVal:=
 match T.und t,x with
 |some (.recd fs),.agg cs=>
  match fs[f]? with
  |some fd=>packT T fd.2 (cs.drop fd.1)
  |none=>none
 |_,_=>none
def intsOf (k:IntKind):List AVal→Option (List Int)
 | []=>some []
 |.int j n::r=>if j=k then (match intsOf k r with|some l=>some (n::l)|none=>none) else none
 |_=>none
def boolsOf:List AVal→Option (List Bool)
 | []=>some []
 |.bool b::r=>(match boolsOf r with|some l=>some (b::l)|none=>none)
 |_=>none
def fnsOf:List AVal→Option (List Nat)
 | []=>some []
 |.fn f []::r=>(match fnsOf r with|some l=>some (f::l)|none=>none)
 |_=>none
def rosOf (e:Sh):List AVal→Option (List (List e.ty))
 | []=>some []
 |.ro d xs::r=>if hd:d=e then (match rosOf e r with|some l=>some ((hd▸xs)::l)|none=>none) else none
 |_=>none
def oneOf (n:Int):List AVal→Option AVal
 |.int k a::r=>(match intsOf k r with|some l=>some (.int k ((a::l).getD n.toNat 0))|none=>none)
 |.bool b::r=>(match boolsOf r with|some l=>some (.bool ((b::l).getD n.toNat false))|none=>none)
 |.ro e a::r=>(match rosOf e r with|some l=>some (.ro e ((a::l).getD n.toNat []))|none=>none)
 |.fn f []::r=>(match fnsOf r with|some l=>some (.fn ((f::l).getD n.toNat 0) [])|none=>none)
 |_=>none
def elemAt (n:Int) (cs:List AVal) (z m:Nat):Nat→Option (List AVal)
 |0=>some []
 |j+1=>
  match oneOf n ((List.range m).map fun q=>cs.getD (q*z+(z-(j+1))) .any),elemAt n cs z m j with
  |some v,some vs=>some (v::vs)
  |_,_=>none
def evIndexV (t:TypeId) (x iv:AVal) (k:AVal→Option α):Option α:=
 match iv,T.und t,x with
 |.int _ n,some (.arr m et),.agg cs=>
  if T.size et≠0∧cs.length=m*T.size et then
   match elemAt n cs (T.size et) m (T.size et) with
   |some vs=>
    match packT T et vs with
    |some v=>C.iff (0≤n∧n<m) inferInstance (k v) none
    |none=>none
   |none=>none
  else none
 |_,_,_=>none
def evPure (S:Fsp) (dr fz:Bool) (args:List AVal) (h0:List ABlk) (k:AExit→AVal→List ABlk→Option α):Option α:=
    match peekL (peekP h0) args with
    |none=>none
    |some aw=>
     S α aw fun
       |.ret v=>
        if v.flat2 then k .normal v h0 else
        bif dr&&!(args.flatMap AVal.namedP).isEmpty then none else
        match killZ (fz&&!dr) h0 (dedup (args.flatMap AVal.namedP)) with
        |some h=>k .normal v h
        |none=>none
       |.pan v=>bif !v.flat2 then none else k (.pan v) .any h0
def evCall (env:Env) (dr:Bool) (f:FuncId) (caps args:List AVal) (h0:List ABlk) (k:AExit→AVal→List ABlk→Option α):Option α:=
 match env.fs f with
 |none=>bif dr&&!env.few then none else env.cv α (.fn f caps) args h0 k
 |some S=>bif !dr&&env.inn f then env.cv α (.fn f caps) args h0 k else evPure S dr env.frz (args++caps) h0 k
def leavesT (T:Tab):Nat→TypeId→List (Option TypeId)
 |0,_=>[]
 |n+1,t=>
  match T.und t with
  |some (.sl et)=>[some et]
  |some (.recd fs)=>fs.flatMap fun f=>leavesT T n f.2
  |some (.arr m e)=>(List.replicate m (leavesT T n e)).flatten
  |_=>[none]
def nilRows (T:Tab):List AVal→List (Option TypeId)→List ABlk→List AVal × List ABlk
 |.nils::r,some et::q,h=>
  match T.sh et with
  |some e=>
   if T.size et=e.size∧0<e.size then
    let p:=nilRows T r q (h++[.row true et e []])
    (.own h.length::p.1,p.2)
   else
    let p:=nilRows T r q h
    (.nils::p.1,p.2)
  |none=>
   let p:=nilRows T r q h
   (.nils::p.1,p.2)
 |c::r,_::q,h=>
  let p:=nilRows T r q h
  (c::p.1,p.2)
 |cs,[],h=>(cs,h)
 | [],_,h=>([],h)
def evMkMap (t:TypeId) (h:List ABlk) (k:AVal→List ABlk→Option α):Option α:=
 match T.und t with
 |some (.map kt vt)=>
  match T.sh kt,T.sh vt with
  |some ks,some vs=>k (.own h.length) (h++[.row true t (.mp ks vs) []])
  |_,_=>none
 |_=>none
def evLook (t:TypeId) (m key:AVal) (ok:Bool) (h:List ABlk) (k:AVal→Option α):Option α:=
 match T.und t,m with
 |some (.map kt vt),.own i=>
  match h.getD i .dead with
  |.row _ _ (.mp ks vs) xs=>
   if keyB T kt ks=true∧key.named1=[] then
    match exV h ks key,T.zero vt with
    |some q,some z=>
     match exV [] vs z with
     |some y=>k (bif ok then .tup [vs.val ((mpFind ks vs q xs).getD y),.bool (mpFind ks vs q xs).isSome] else vs.val ((mpFind ks vs q xs).getD y))
     |none=>none
    |_,_=>none
   else none
  |_=>none
 |_,_=>none
def evUpd (t:TypeId) (m key v:AVal) (h:List ABlk) (k:List ABlk→Option α):Option α:=
 match T.und t,m with
 |some (.map kt _),.own i=>
  match h.getD i .dead with
  |.row true t' (.mp ks vs) xs=>
   if keyB T kt ks=true∧key.named1=[]∧v.named1=[] then
    match exV h ks key,exV h vs v with
    |some q,some y=>k (h.set i (.row true t' (.mp ks vs) (mpPut ks vs q y xs)))
    |_,_=>none
   else none
  |_=>none
 |_,_=>none
def evLenM (h:List ABlk) (x:AVal):Option Int:=
 match x with
 |.own i=>
  match h.getD i .dead with
  |.row _ _ (.mp _ _) xs=>some xs.length
  |_=>none
 |_=>none
def evOpH (env:Env) (dr:Bool) (op:Op) (ty:TypeId) (ρ:Operand→AVal) (h:List ABlk) (k:AExit→AVal→List ABlk→Option α):Option α:=
 match op with
 |.move x=>k .normal (ρ x) h
 |.assign x=>
  match ρ x,T.und ty with
  |.nils,some (.sl et)=>
   match T.sh et with
   |some e=>if dr=false∧T.size et=e.size∧0<e.size then (bif env.nz then k .normal (.ro e []) h else k .normal (.own h.length) (h++[.row true et e []])) else k .normal .nils h
   |none=>k .normal .nils h
  |v,_=>k .normal v h
 |.pick c a b=>
  match ρ c with
  |.bool t=>
   match ρ a,ρ b with
   |.bool u,.bool v=>k .normal (.bool (bif t then u else v)) h
   |u,v=>C.part t (k .normal u h) (k .normal v h)
  |_=>none
 |.alloc t=>
  match T.zero t with
  |some z=>
   if z.cells.all AVal.scalar then
    bif dr then k .normal (.op h.length 0) (h++[.box true z.cells])
    else
     let p:=nilRows T z.cells (leavesT T 8 t) h
     k .normal (.op p.2.length 0) (p.2++[.box true p.1])
   else none
  |none=>none
 |.box t x=>
  if (ρ x).cells.all AVal.scalar then
   bif dr || !env.few then k .normal (.op h.length 0) (h++[.box true (ρ x).cells])
   else
    let p:=nilRows T (ρ x).cells (leavesT T 8 t) h
    k .normal (.op p.2.length 0) (p.2++[.box true p.1])
  else none
 |.build t parts=>
  match T.zero t,placesOf T t with
  |some z,some pl=>
   if z.cells.all AVal.scalar=false then none else
   match fillC pl z.cells (parts.toList.map fun p=>(p.1,ρ p.2)) with
   |some cs=>
    bif dr || !env.nrw then k .normal (.agg cs) h
    else
     let p:=nilRows T cs (leavesT T 8 t) h
     k .normal (.agg p.1) p.2
   |none=>none
  |_,_=>none
 |.buildSlice t len parts=>
  match T.und t with
  |some (.sl et)=>
   match T.sh et,T.zero et with
   |some e,some z=>
    if z.cells.all AVal.scalar=true∧T.size et=e.size∧0<e.size∧z.cells.length=e.size∧len*T.size et≤16777216 then
     match fillC (fun i=>some (i*T.size et,T.size et)) ((List.replicate len z.cells).flatten) (parts.toList.map fun p=>(p.1,ρ p.2)) with
     |none=>none
     |some cs=>
      if cs.all AVal.scalar then
       match peekL (peek0 h) cs with
       |none=>none
       |some us=>
        match killAll h (dedup (cs.flatMap AVal.named0)),e.many len us with
        |some h',some xs=>k .normal (.own h'.length) (h'++[.row true et e xs])
        |_,_=>none
      else none
    else none
   |_,_=>none
  |_=>none
 |.load t a=>
  match cellsAt h (ρ a) with
  |some cs=>
   match packT T t cs with
   |some v=>k .normal v h
   |none=>none
  |none=>none
 |.store t a x=>evStore T t (ρ a) (ρ x) h fun h'=>k .normal .undef h'
 |.nilCheck x=>
  bif (ρ x).livePtr h then k .normal (ρ x) h else none
 |.binOp op t x y _=>evBin C T op t (ρ x) (ρ y) fun v=>k .normal v h
 |.unOp op _ x=>evUn op (ρ x) fun v=>k .normal v h
 |.convert src dst x=>
  match ρ x,T.und src,T.und dst with
  |.int _ n,some _,some (.int j)=>k .normal (.int j (j.wrap n)) h
  |_,_,_=>none
 |.makeInterface t x=>
  match T.und t with
  |some .ifc=>none
  |some _=>k .normal (.ifc t (ρ x)) h
  |none=>none
 |.makeFunc (.func f) first caps=>if first.size=0 then k .normal (.fn f (caps.toList.map ρ)) h else none
 |.makeSlice t l c=>evMake C T t (ρ l) (ρ c) h fun v h'=>k .normal v h'
 |.slice t x lo hi none=>evSlice C T dr t (ρ x) (lo.map ρ) (hi.map ρ) h fun v h'=>k .normal v h'
 |.fieldAddr t x f=>evFieldAddr T t (ρ x) f h fun v=>k .normal v h
 |.field t x f=>
  match evField T t (ρ x) f with
  |some v=>k .normal v h
  |none=>none
 |.indexAddr t x ix=>evIndexAddr C T t (ρ x) (ρ ix) h fun v=>k .normal v h
 |.index t x ix=>evIndexV C T t (ρ x) (ρ ix) fun v=>k .normal v h
 |.extract x ix=>
  match ρ x with
  |.tup vs=>
   match vs[ix]? with
   |some v=>k .normal v h
   |none=>none
  |_=>none
 |.makeMap t none=>evMkMap T t h fun v h'=>k .normal v h'
 |.lookup t m x ok=>evLook T t (ρ m) (ρ x) ok h fun v=>k .normal v h
 |.mapUpdate t m x y=>evUpd T t (ρ m) (ρ x) (ρ y) h fun h'=>k .normal .undef h'
 |.call { callee:=.builtin .len,args,argTypes }=>
  match args.toList,argTypes.toList with
  | [x],[t]=>
    match T.und t,evLen h (ρ x) with
    |some (.map _ _),_=>(match evLenM h (ρ x) with|some n=>k .normal (.int .i64 n) h|none=>none)
    |some (.sl _),some n=>(match ρ x with|.str _=>none|_=>k .normal (.int .i64 n) h)
    |some .str,some n=>(match ρ x with|.str _=>k .normal (.int .i64 n) h|_=>none)
    |_,_=>none
  |_,_=>none
 |.call { callee:=.builtin .min,args,.. }=>
  match args.toList.map ρ with
  |.int j x::r=>
   match minI r x with
   |some n=>k .normal (.int j n) h
   |none=>none
  |_=>none
 |.call { callee:=.builtin .max,args,.. }=>
  match args.toList.map ρ with
  |.int j x::r=>
   match maxI r x with
   |some n=>k .normal (.int j n) h
   |none=>none
  |_=>none
 |.call { callee:=.builtin .append,args,argTypes }=>
  match args.toList,argTypes.toList with
  | [x,y],[t,u]=>if t=u then evAppend C T t (ρ x) (ρ y) h fun v h'=>k .normal v h' else none
  |_,_=>none
 |.call { callee:=.value f,args,.. }=>
  match ρ f with
  |.fn g caps=>evCall env dr g caps (args.toList.map ρ) h k
  |.yld i=>bif dr&&!env.few then none else env.cv α (.yld i) (args.toList.map ρ) h k
  |_=>none
 |.panic x=>
  match ρ x with
  |.ifc t v=>bif dr then none else k (.pan (.ifc t v)) .any h
  |_=>none
 |_=>none
def evOp (env:Env) (dr:Bool) (o:Oper) (s:AS) (k:AExit→AVal→AS→Option α):Option α:=
 evOpH C T env dr o.op o.type s.ev s.heap fun x v h=>k x v { s with heap:=h }
def evOps (env:Env) (dr:Bool) (ops:Array Oper):List Oper→AS→(AExit→AS→Option α)→Option α
 | [],s,k=>k .normal s
 |o::r,s,k=>
  let go (s:AS):Option α:=evOp C T env dr o s fun x v s'=>
   match x with
   |.normal=>evOps env dr ops r (s'.put o.dst v) k
   |x=>bif dr then none else k x s'
  match o.guard with
  |none=>go s
  |some (j,want)=>
   match (ops[j]?).bind (·.dst) with
   |none=>none
   |some d=>
    match s.get d with
    |.bool b=>
     C.part b (bif want then go (s.put (some d) (.bool true)) else evOps env dr ops r ((s.put (some d) (.bool true)).put o.dst .undef) k)
      (bif want then evOps env dr ops r ((s.put (some d) (.bool false)).put o.dst .undef) k else go (s.put (some d) (.bool false)))
    |.undef=>evOps env dr ops r (s.put o.dst .undef) k
    |_=>none
end
def dstsOf:Code→List Nat
 |.region _ ops _=>ops.toList.filterMap (·.dst)
 |.seq (.region _ _ _) .ret=>[]
 |.seq a b=>dstsOf a++dstsOf b
 |.cond _ a b=>dstsOf a++dstsOf b
 |.block _ a=>dstsOf a
 |.loop a=>dstsOf a
 |.scope a=>dstsOf a
 |.rangeFunc _ _ a b=>dstsOf a++dstsOf b
 |_=>[]
def opsOf:Code→List Oper
 |.region _ ops _=>ops.toList
 |.seq a b=>opsOf a++opsOf b
 |.cond _ a b=>opsOf a++opsOf b
 |.block _ a=>opsOf a
 |.loop a=>opsOf a
 |.scope a=>opsOf a
 |.rangeFunc _ _ a b=>opsOf a++opsOf b
 |_=>[]
def exitsOf:Code→List Nat
 |.seq a b=>exitsOf a++exitsOf b
 |.cond _ a b=>exitsOf a++exitsOf b
 |.block id a=>(exitsOf a).filter (· != id)
 |.loop a=>exitsOf a
 |.scope a=>exitsOf a
 |.rangeFunc _ _ a b=>exitsOf a++exitsOf b
 |.exit id=>[id]
 |_=>[]
def rootOf (ops:List Oper):Nat→Nat→Nat
 |0,t=>t
 |n+1,t=>
  match ops.find? (fun o=>o.dst==some t) with
  |some o=>
   match o.op with
   |.fieldAddr _ (.tmp u) _=>rootOf ops n u
   |.indexAddr _ (.tmp u) _=>rootOf ops n u
   |.move (.tmp u)=>rootOf ops n u
   |.nilCheck (.tmp u)=>rootOf ops n u
   |.assign (.tmp u)=>rootOf ops n u
   |_=>t
  |none=>t
def rootsOf (ops:List Oper):List Nat:=
 ops.filterMap fun o=>
  match o.op with
  |.store _ (.tmp t) _=>some (rootOf ops 12 t)
  |.mapUpdate _ (.tmp t) _ _=>some (rootOf ops 12 t)
  |_=>none
inductive Kd where
 |v (s:Sh)
 |own (t:TypeId) (e:Sh)
def Kd.ty:Kd→Type
 |.v s=>s.ty
 |.own _ e=>List e.ty
def Kds.ty:List Kd→Type
 | []=>Unit
 |k::r=>k.ty × Kds.ty r
def shs0:List AVal→Option Shs
 | []=>some .nil
 |c::r=>
  match c,shs0 r with
  |.int j _,some q=>some (.cons (.int j) q)
  |.bool _,some q=>some (.cons .bool q)
  |.str _,some q=>some (.cons .str q)
  |.ro e _,some q=>some (.cons (.sl e) q)
  |_,_=>none
def kindOf (h:List ABlk):AVal→Option Kd
 |.int j _=>some (.v (.int j))
 |.bool _=>some (.v .bool)
 |.str _=>some (.v .str)
 |.ro e _=>some (.v (.sl e))
 |.agg cs=>
  match shs0 cs with
  |some q=>some (.v (.recd q))
  |none=>none
 |.own i=>
  match h.getD i .dead with
  |.row true t e _=>some (.own t e)
  |_=>none
 |_=>none
def carried (s:AS):List Nat→List (Nat × Kd)
 | []=>[]
 |t::r=>
  match kindOf s.heap (s.get t) with
  |some k=>(t,k)::carried s r
  |none=>carried s r
def boxesOf (s:AS) (roots:List Nat):List Nat:=
 dedup (roots.filterMap fun t=>
  match s.get t with
  |.op i _=>some i
  |_=>none)
def boxAt (h:List ABlk) (i:Nat):List AVal:=
 match h.getD i .dead with
 |.box true cs=>cs
 |_=>[]
def kindsL (h:List ABlk):List AVal→Option (List Kd)
 | []=>some []
 |c::r=>
  match kindOf h c,kindsL h r with
  |some k,some ks=>some (k::ks)
  |_,_=>none
def ownIn (k:Kd) (v:AVal):List Nat:=
 match k,v with
 |.own _ _,.own i=>[i]
 |_,_=>[]
def ownsIn:List Kd→List AVal→List Nat
 |k::ks,v::vs=>ownIn k v++ownsIn ks vs
 |_,_=>[]
def exO (h:List ABlk) (t:TypeId) (e:Sh) (v:AVal):Option (List e.ty):=
 match v with
 |.own i=>
  match h.getD i .dead with
  |.row true t' d xs=>if hd:d=e then (if t'=t then some (hd▸xs) else none) else none
  |_=>none
 |.nils=>if 0<e.size then some [] else none
 |_=>none
def exK (h:List ABlk):(k:Kd)→AVal→Option k.ty
 |.v s,v=>exV h s v
 |.own t e,v=>exO h t e v
def exKs (h:List ABlk):(ks:List Kd)→List AVal→Option (Kds.ty ks)
 | [],[]=>some ()
 |k::ks,v::vs=>
  match exK h k v with
  |none=>none
  |some x=>
   match exKs h ks vs with
   |none=>none
   |some y=>some (x,y)
 |_,_=>none
def valsOf:(ks:List Kd)→Kds.ty ks→Nat→List AVal
 | [],_,_=>[]
 |.v s::ks,x,n=>s.val x.1::valsOf ks x.2 n
 |.own _ _::ks,x,n=>.own n::valsOf ks x.2 (n+1)
def rowsOf:(ks:List Kd)→Kds.ty ks→List ABlk
 | [],_=>[]
 |.v _::ks,x=>rowsOf ks x.2
 |.own t e::ks,x=>.row true t e x.1::rowsOf ks x.2
def lockB:ABlk→ABlk
 |.box _ cs=>.box false cs
 |.row _ t e xs=>.row false t e xs
 |b=>b
def unlockB:ABlk→ABlk→ABlk
 |.box true _,.box _ cs=>.box true cs
 |.row true _ _ _,.row _ t e xs=>.row true t e xs
 |_,b=>b
def unlockH:List ABlk→List ABlk→List ABlk
 |b0::r0,b::r=>unlockB b0 b::unlockH r0 r
 |_,h=>h
def rwsTy:List (Nat × TypeId × Sh)→Type→Type
 | [],X=>X
 |p::r,X=>List p.2.2.ty × rwsTy r X
def rwsBase {X:Type}:(r:List (Nat × TypeId × Sh))→rwsTy r X→X
 | [],x=>x
 |_::r,x=>rwsBase r x.2
def rowIn {X:Type}:(r:List (Nat × TypeId × Sh))→rwsTy r X→Nat→Option ABlk
 | [],_,_=>none
 |p::r,x,j=>if j=p.1 then some (.row true p.2.1 p.2.2 x.1) else rowIn r x.2 j
def exRow (h:List ABlk) (p:Nat × TypeId × Sh):Option (List p.2.2.ty):=
 match h.getD p.1 .dead with
 |.row true t d xs=>if hd:d=p.2.2 then (if t=p.2.1 then some (hd▸xs) else none) else none
 |_=>none
def exRws {X:Type} (h:List ABlk):(r:List (Nat × TypeId × Sh))→Option X→Option (rwsTy r X)
 | [],o=>o
 |p::r,o=>
  match exRow h p with
  |none=>none
  |some x=>
   match exRws h r o with
   |none=>none
   |some y=>some (x,y)
def lpsOf:List ABlk→Nat→Option (List (Nat × LoopState))
 | [],_=>some []
 |.lp st none _ _ _ _::r,n=>
  match lpsOf r (n+1) with
  |some l=>some ((n,st)::l)
  |none=>none
 |.lp _ (some _) _ _ _ _::_,_=>none
 |.free::_,_=>none
 |_::r,n=>lpsOf r (n+1)
def lpsB (h:List ABlk) (l:List (Nat × LoopState)):Bool:=
 l.all fun p=>
  match h.getD p.1 .dead with
  |.lp st none _ _ _ _=>st==p.2
  |_=>false
def mapAt (f:Nat→ABlk→ABlk):Nat→List ABlk→List ABlk
 |_,[]=>[]
 |n,b::r=>f n b::mapAt f (n+1) r
def putAll:List AVal→List (Nat × AVal)→List AVal
 |l,[]=>l
 |l,(t,v)::r=>putAll (l.set t v) r
def cellsOf:List (Nat × Nat)→List AVal→Nat→Option (List AVal)
 | [],_,_=>none
 |(i,n)::r,vs,j=>if j=i then some (vs.take n) else cellsOf r (vs.drop n) j
def fzIn:List Kd→List AVal→List Nat
 |.v _::ks,v::vs=>v.named1++fzIn ks vs
 |.own _ _::ks,_::vs=>fzIn ks vs
 |_,_=>[]
def rowB (h:List ABlk) (i:Nat):Bool:=
 match h.getD i .dead with
 |.row true _ _ _=>true
 |_=>false
structure LoopAt where
 dsts:List Nat
 slots:List Nat
 held:List (Nat × Nat)
 boxes:List (Nat × Nat)
 owns:List Nat
 kinds:List Kd
 rws:List (Nat × TypeId × Sh)
 lps:List (Nat × LoopState)
abbrev LoopAt.ty (L:LoopAt):Type:=rwsTy L.rws (Kds.ty L.kinds)
def LoopAt.state (L:LoopAt) (s:AS) (lock:Bool) (z:L.ty):AS:=
 let x:=rwsBase L.rws z
 let vs:=valsOf L.kinds x s.heap.length
 let bs:=vs.drop L.slots.length
 {tmps:=putAll (putAll s.tmps (L.dsts.map fun t=>(t,.any))) (L.slots.zip vs),
  heap:=mapAt (fun n b=>if L.owns.contains n then .dead else
   match cellsOf L.boxes bs n with
   |some cs=>.box true cs
   |none=>
    match rowIn L.rws z n with
    |some B=>B
    |none=>bif lock then lockB b else b) 0 s.heap++rowsOf L.kinds x }
def LoopAt.vals (L:LoopAt) (s:AS):List AVal:=
 L.slots.map s.get++(L.boxes.flatMap fun b=>boxAt s.heap b.1)
def boxB (h:List ABlk) (i:Nat):Bool:=
 match h.getD i .dead with
 |.box true _=>true
 |_=>false
def heldB (s:AS):List (Nat × Nat)→Bool
 | []=>true
 |(t,i)::r=>
  match s.get t with
  |.own j=>i==j&&heldB s r
  |_=>false
def heldOf (skip:List Nat):List AVal→Nat→List (Nat × Nat)
 | [],_=>[]
 |.own i::r,t=>bif skip.contains t then heldOf skip r (t+1) else (t,i)::heldOf skip r (t+1)
 |_::r,t=>heldOf skip r (t+1)
def LoopAt.ex (L:LoopAt) (s:AS):Option L.ty:=
 if (heldB s L.held=true∧(L.rws.all fun r=>!(ownsIn L.kinds (L.vals s)).contains r.1&&!(fzIn L.kinds (L.vals s)).contains r.1)=true∧lpsB s.heap L.lps=true)∧(ownsIn L.kinds (L.vals s)).Nodup∧((fzIn L.kinds (L.vals s)).all fun j=>rowB s.heap j&&!(ownsIn L.kinds (L.vals s)).contains j)=true∧(L.boxes.all fun b=>boxB s.heap b.1&&(boxAt s.heap b.1).length==b.2)=true
 then exRws s.heap L.rws (exKs s.heap L.kinds (L.vals s)) else none
def allBoxes (h:List ABlk):List ABlk→Nat→List Nat
 | [],_=>[]
 |.box true cs::r,n=>if (kindsL h cs).isSome then n::allBoxes h r (n+1) else allBoxes h r (n+1)
 |_::r,n=>allBoxes h r (n+1)
def allRows (skip:List Nat):List ABlk→Nat→List (Nat × TypeId × Sh)
 | [],_=>[]
 |.row true t e _::r,n=>if skip.contains n then allRows skip r (n+1) else (n,t,e)::allRows skip r (n+1)
 |_::r,n=>allRows skip r (n+1)
def callsB (env:Env) (s:AS) (ops:List Oper):Bool:=
 ops.any fun o=>
  match o.op with
  |.call { callee:=.value f,.. }=>
   match s.ev f with
   |.fn g _=>!((env.fs g).isSome || env.pr g)
   |_=>true
  |_=>false
def hasRange:Code→Bool
 |.seq a b=>hasRange a || hasRange b
 |.cond _ a b=>hasRange a || hasRange b
 |.block _ a=>hasRange a
 |.loop a=>hasRange a
 |.scope a=>hasRange a
 |.rangeFunc _ _ _ _=>true
 |_=>false
def refsN:Nat→AVal→List Nat
 |0,_=>[]
 |n+1,v=>
  match v with
  |.own i|.op i _|.oe i _ _|.yld i=>[i]
  |.agg cs|.rp cs|.fn _ cs|.tup cs=>cs.flatMap (refsN n)
  |.ifc _ v=>refsN n v
  |_=>[]
def refsB:ABlk→List Nat
 |.box _ cs=>cs.flatMap (refsN 6)
 |.lp _ _ tmps _ _ _=>tmps.flatMap (refsN 6)
 |_=>[]
def reachN (h:List ABlk):Nat→List Nat→List Nat→List Nat
 |0,seen,_=>seen
 |n+1,seen,new=>
  let nx:=dedup (new.flatMap fun i=>refsB (h.getD i .dead))
  let fr:=nx.filter fun i=>!seen.contains i
  if fr.isEmpty then seen else reachN h n (seen++fr) fr
def peekO (h:List ABlk) (tmps:List AVal) (ops:List Oper):Nat→Operand→AVal
 |0,_=>.any
 |n+1,.tmp t=>
  match ops.find? (fun o=>o.dst==some t) with
  |some o=>
   match o.op with
   |.load _ x=>
    match peekO h tmps ops n x with
    |.op i off=>(match h.getD i .dead with|.box _ cs=>cs.getD off .any|_=>.any)
    |.rp cs=>cs.getD 0 .any
    |.agg cs=>.agg cs
    |_=>.any
   |.fieldAddr _ x _=>
    match peekO h tmps ops n x with
    |.op i _=>(match h.getD i .dead with|.box _ cs=>.agg cs|_=>.any)
    |.rp cs=>.agg cs
    |.agg cs=>.agg cs
    |_=>.any
   |.move x=>peekO h tmps ops n x
   |.nilCheck x=>peekO h tmps ops n x
   |.assign x=>peekO h tmps ops n x
   |.indexAddr _ x _=>(match peekO h tmps ops n x with|.own i=>.oe i 0 0|_=>.any)
   |_=>.any
  |none=>tmps.getD t .any
 |_,.const v=>ofValue v
 |_,.func f=>.fn f []
 |_,.global _=>.any
def thruB (ops:List Oper):Bool:=
 ops.any fun o=>
  match o.op with
  |.store _ (.tmp t) _=>
   match ops.find? (fun q=>q.dst==some (rootOf ops 12 t)) with
   |some q=>(match q.op with|.load _ _=>true|_=>false)
   |none=>false
  |.mapUpdate _ (.tmp t) _ _=>
   match ops.find? (fun q=>q.dst==some (rootOf ops 12 t)) with
   |some q=>(match q.op with|.load _ _=>true|_=>false)
   |none=>false
  |_=>false
def aliasB (s:AS) (ops:List Oper):Bool:=
 (rootsOf ops).any fun t=>
  match s.get t with
  |.own i=>s.heap.any fun b=>match b with|.box _ cs=>cs.any fun c=>(match c with|.own j=>i==j|_=>false)|_=>false
  |_=>false
def oeB (env:Env) (s:AS) (ops:List Oper):Bool:=
 ops.any fun o=>
  match o.op with
  |.call { callee:=.value (.func f),args,.. }=>!(env.fs f).isSome&&args.any fun a=>(match peekO s.heap s.tmps ops 12 a with|.oe _ _ _=>true|_=>false)
  |_=>false
def wrOf (env:Env) (h:List ABlk):Nat→List AVal→Code→List Nat
 |0,_,_=>[]
 |n+1,tmps,c=>
  dedup ((opsOf c).flatMap fun o=>
   match o.op with
   |.store _ (.tmp t) _=>refsN 2 (peekO h tmps (opsOf c) 12 (.tmp (rootOf (opsOf c) 12 t)))
   |.mapUpdate _ x _ _=>refsN 2 (peekO h tmps (opsOf c) 12 x)
   |.call { callee:=.value f,args,.. }=>
    match peekO h tmps (opsOf c) 12 f with
    |.fn g caps=>bif (env.fs g).isSome then [] else reachN h 20 [] (dedup ((caps++args.toList.map (peekO h tmps (opsOf c) 12)).flatMap (refsN 6)))++dedup ((caps++args.toList.map (peekO h tmps (opsOf c) 12)).flatMap (refsN 6))
    |.yld i=>(match h.getD i .dead with|.lp _ _ ts _ aw body=>wrOf env h n ts (.seq aw body)|_=>[])
    |.agg cs=>cs.flatMap fun c=>match c with
     |.fn g caps=>bif (env.fs g).isSome then [] else reachN h 20 [] (dedup (caps.flatMap (refsN 6)))++dedup (caps.flatMap (refsN 6))
     |_=>[]
    |_=>[]
   |_=>[])
def aliasN (h:List ABlk) (n:Nat):Bool:=
 (boxAt h n).any fun c=>
  match c with
  |.own i=>(List.range h.length).any fun m=>m != n&&(match h.getD m .dead with|.box _ cs=>cs.any (fun c=>(match c with|.own j=>i==j|_=>false))|_=>false)
  |_=>false
def loopAt (imp:Bool) (only:Option (List Nat)) (s:AS) (body:Code):Option LoopAt:=
 let ds:=dedup (dstsOf body)
 let rs:=dedup (rootsOf (opsOf body))
 let cs:=carried s (bif imp then ds else ds++rs.filter fun t=>!ds.contains t&&(match s.get t with|.own _=>true|_=>false))
 let bs:=bif imp then (match only with|some l=>((allBoxes s.heap s.heap 0).filter l.contains).filter (fun n=>!aliasN s.heap n)|none=>allBoxes s.heap s.heap 0) else boxesOf s rs
 match kindsL s.heap (bs.flatMap (boxAt s.heap)) with
 |none=>none
 |some ks=>
  let kinds:=cs.map (·.2)++ks
  let slots:=cs.map (·.1)
  let boxes:=bs.map fun i=>(i,(boxAt s.heap i).length)
  let vs:=slots.map s.get++bs.flatMap (boxAt s.heap)
  match lpsOf s.heap 0 with
  |none=>none
  |some lps=>
   bif (fzIn kinds vs).isEmpty then some { dsts:=ds,slots,held:=heldOf (ds++slots) s.tmps 0,boxes,kinds,owns:=ownsIn kinds vs,rws:=bif imp then (match only with|some l=>(allRows (ownsIn kinds vs) s.heap 0).filter fun r=>l.contains r.1|none=>allRows (ownsIn kinds vs) s.heap 0) else [],lps } else none
def goOut (C:Comb) {σ α:Type} (outs:List Nat) (id:Nat) (x:σ) (k:Nat→σ→Option α):Option α:=
 match outs with
 | []=>none
 |o::r=>C.iff (id=o) inferInstance (k o x) (goOut C r id x k)
def opE:Op→Bool
 |.alloc _|.box _ _|.buildSlice _ _ _|.makeSlice _ _ _|.store _ _ _|.makeMap _ _|.mapUpdate _ _ _ _=>true
 |.call { callee:=.builtin .append,.. }=>true
 |_=>false
def opR:Op→Bool
 |.move _|.assign _|.pick _ _ _|.build _ _|.binOp _ _ _ _ _|.unOp _ _ _|.convert _ _ _|.makeInterface _ _|.makeFunc _ _ _|.field _ _ _|.index _ _ _|.extract _ _=>false
 |_=>true
def waitsL:List Oper→List (List Nat)→List (List Nat)
 | [],acc=>acc
 |o::r,acc=>
  let d:=o.after.toList.filterMap fun e=>bif Region.binds .any e then some e.on else none
  waitsL r (acc++[dedup (d++d.flatMap fun j=>acc.getD j [])])
abbrev Foot:=Option (List Nat × List Nat)
def Foot.no:Foot:=some ([],[])
def blkRef:AVal→Option (List Nat)
 |.own i=>some [i]
 |.op i _=>some [i]
 |.oe i _ _=>some [i]
 |.ro _ _=>some []
 |.rp _=>some []
 |.nils=>some []
 |.str _=>some []
 |_=>none
def onlyRd (o:Option (List Nat)):Foot:=match o with|some l=>some (l,[])|none=>none
def blkRow:AVal→Option (List Nat)
 |.own i=>some [i]
 |.nils=>some []
 |_=>none
def blkArg:AVal→Option (List Nat)
 |.own i=>some [i]
 |.ro _ _=>some []
 |.nils=>some []
 |_=>none
def plainC:AVal→Bool
 |.int _ _=>true
 |.bool _=>true
 |.str _=>true
 |_=>false
def oneP (ρ:Operand→AVal):List (Nat × Operand)→Bool
 | [(i,x)]=>i==0&&(ρ x).cells.all plainC
 |_=>false
def oneO (ρ:Operand→AVal):List (Nat × Operand)→Option Nat
 | [(0,x)]=>(match ρ x with|.own j=>some j|_=>none)
 |_=>none
def footOf (fs:FuncId→Option Fsp) (rp:Bool) (n:Nat) (ρ:Operand→AVal):Op→Foot
 |.alloc _=>some ([n],[n])
 |.box _ _=>some ([n],[n])
 |.store _ a _=>match blkRef (ρ a) with|some l=>some (l,l)|none=>none
 |.load _ a=>onlyRd (blkRef (ρ a))
 |.nilCheck a=>onlyRd (blkRef (ρ a))
 |.fieldAddr _ a _=>onlyRd (blkRef (ρ a))
 |.indexAddr _ a _=>onlyRd (blkRef (ρ a))
 |.slice _ x _ _ _=>match ρ x with
  |.ro _ _=>Foot.no
  |_=>none
 |.call { callee:=.builtin .len,args,.. }=>match args.toList with
  | [x]=>onlyRd (blkRef (ρ x))
  |_=>none
 |.call { callee:=.builtin .min,.. }=>Foot.no
 |.call { callee:=.builtin .max,.. }=>Foot.no
 |.call { callee:=.builtin .append,args,.. }=>bif rp then
   match args.toList with
   | [x,y]=>match blkRow (ρ x),blkArg (ρ y) with
     |some a,some b=>some (a++b++[n],a++[n])
     |_,_=>none
   |_=>none
  else none
 |.makeSlice _ _ _=>bif rp then some ([n],[n]) else none
 |.buildSlice _ len parts=>bif rp&&((len==0&&parts.isEmpty) || (len==1&&oneP ρ parts.toList)) then some ([n],[n]) else bif rp&&len==1 then (match oneO ρ parts.toList with|some j=>some ([j]++[n],[j]++[n])|none=>none) else none
 |.call { callee:=.value f,args,.. }=>match ρ f with
  |.fn g caps=>(match fs g with|some _=>some ((args.toList.map ρ++caps).flatMap AVal.namedP,[])|none=>none)
  |_=>none
 |op=>if opE op || opR op then none else Foot.no
def hidF (ms ls:List Nat) (a:List Nat × List Nat):Bool:=(a.1.all fun i=>ms.contains i || ls.contains i)&&a.2.all fun i=>ms.contains i
def apartF (ms ls:List Nat):Foot→Foot→Bool
 |some a,some b=>(a.2.all fun i=>!b.1.contains i)&&b.2.all fun i=>!a.1.contains i
 |some a,none=>hidF ms ls a
 |none,some b=>hidF ms ls b
 |none,none=>false
def addrO:Op→Bool
 |.fieldAddr _ _ _=>true
 |.indexAddr _ _ _=>true
 |_=>false
def stoO:Op→Bool
 |.store _ _ _=>true
 |_=>false
def adstB (x:Oper) (fx:Foot) (y:Oper) (fy:Foot):Bool:=fx.isSome&&fy.isSome&&((addrO x.op&&stoO y.op) || (stoO x.op&&addrO y.op))
def indepB (env:Env) (ops:Array Oper) (x:Oper) (fx:Foot) (y:Oper) (fy:Foot):Bool:=Oper.apart ops x y&&(apartF env.msk env.lck fx fy || adstB x fx y fy)
def isRowMk:Op→Bool
 |.buildSlice _ _ _=>true
 |.makeSlice _ _ _=>true
 |.call { callee:=.builtin .append,.. }=>true
 |_=>false
def rpOf (ops:List Oper):Bool:=decide (2≤(ops.filter fun o=>isRowMk o.op).length)
def isAlloc (rp:Bool):Op→Bool
 |.alloc _=>true
 |.box _ _=>true
 |op=>rp&&isRowMk op
def placeOf (base:Nat) (ops:List Oper) (i:Nat):Nat:=base+((ops.take i).filter fun o=>isAlloc (rpOf ops) o.op).length
def highB (base:Nat) (f:Foot):Bool:=match f with|some l=>l.2.all fun b=>decide (base≤b)|none=>false
def offD (ws:List (List Nat)) (i:Nat) (pan:Option (List Nat × AVal)):Bool:=match pan with|some (ps,_)=>ps.any fun p=>(ws.getD i []).contains p|none=>false
def samePan:AVal→AVal→Bool
 |.ifc t (.agg [.int j a]),.ifc u (.agg [.int k b])=>decide (t=u∧j=k∧a=b)
 |_,_=>false
def chkD (env:Env) (ops:Array Oper) (ws:List (List Nat)) (i:Nat) (o:Oper) (f:Foot) (seen:List (Nat × Oper × Foot)):Bool:=seen.all fun p=>(ws.getD i []).contains p.1 || indepB env ops p.2.1 p.2.2 o f
def edgeB (o:Oper) (i:Nat):Bool:=o.after.all fun e=>!Region.binds .any e || decide (e.on<i)
def unfreeB:ABlk→ABlk
 |.free=>.dead
 |b=>b
section
variable (C:Comb) (T:Tab) {α:Type}
def relab (n:Nat) (h:List ABlk) (x:AExit) (v:AVal) (h1:List ABlk) (k:AExit→AVal→List ABlk→Option α):Option α:=
 match h[n]? with
 |some .free=>
  match x,v with
  |.normal,.op i 0=>if i=h.length∧h1.length=h.length+1 then k .normal (.op n 0) ((h1.take h.length).set n (h1.getD h.length .dead)) else none
  |.normal,.own i=>if i=h.length∧h1.length=h.length+1 then k .normal (.own n) ((h1.take h.length).set n (h1.getD h.length .dead)) else none
  |_,_=>none
 |_=>none
def evD0 (env:Env) (rp:Bool) (n:Nat) (op:Op) (ty:TypeId) (ρ:Operand→AVal) (h:List ABlk) (k:AExit→AVal→List ABlk→Option α):Option α:=
 bif isAlloc rp op then evOpH C T env true op ty ρ h fun x v h1=>relab n h x v h1 k
 else evOpH C T env true op ty ρ h k
def lockX:ABlk→ABlk
 |.box _ cs=>.box false cs
 |b=>b
def hideB (ms ls:List Nat) (i:Nat) (b:ABlk):ABlk:=bif ms.contains i then .dead else bif ls.contains i then lockX b else b
def hideH (ms ls:List Nat) (h:List ABlk):List ABlk:=mapAt (hideB ms ls) 0 h
def showH (ms ls:List Nat) (h h1:List ABlk):List ABlk:=mapAt (fun i b=>bif ms.contains i || ls.contains i then h.getD i .dead else b) 0 h1
def boxX (h:List ABlk) (i:Nat):Bool:=
 match h.getD i .dead with
 |.box _ _=>true
 |_=>false
def okH (ms ls:List Nat) (h:List ABlk):Bool:=(ms.all fun i=>decide (i<h.length))&&ls.all fun i=>boxX h i&&!ms.contains i
def noN (ms:List Nat):Nat→AVal→Bool
 |0,_=>false
 |n+1,v=>
  match v with
  |.op i _=>!ms.contains i
  |.own i=>!ms.contains i
  |.oe i _ _=>!ms.contains i
  |.agg cs=>cs.all (noN ms n)
  |.tup cs=>cs.all (noN ms n)
  |.fn _ cs=>cs.all (noN ms n)
  |.ifc _ v=>noN ms n v
  |.rp _=>false
  |.yld _=>false
  |_=>true
def noNB (ms:List Nat):ABlk→Bool
 |.box _ cs=>cs.all (noN ms 9)
 |.lp _ _ _ _ _ _=>false
 |_=>true
def okHid (ms:List Nat) (h h1:List ABlk) (v:AVal):Bool:=decide (h.length≤h1.length)&&(ms.isEmpty || (noN ms 9 v&&(List.range h1.length).all fun i=>ms.contains i || noNB ms (h1.getD i .dead)))
def hidD {α:Type} (ms ls:List Nat) (h:List ABlk) (x:AExit) (v:AVal) (h1:List ABlk) (k:AExit→AVal→List ABlk→Option α):Option α:=
 match x with
 |.normal=>bif okHid ms h h1 v then k .normal v (showH ms ls h h1) else none
 |_=>none
def evD (env:Env) (rp:Bool) (n:Nat) (op:Op) (ty:TypeId) (ρ:Operand→AVal) (h:List ABlk) (k:AExit→AVal→List ABlk→Option α):Option α:=
 match footOf env.fs rp n ρ op with
 |some _=>evD0 C T env rp n op ty ρ h k
 |none=>
  bif env.msk.isEmpty&&env.lck.isEmpty then evD0 C T env rp n op ty ρ h k
  else bif isAlloc rp op then none
  else bif okH env.msk env.lck h then evOpH C T env true op ty ρ (hideH env.msk env.lck h) fun x v h1=>hidD env.msk env.lck h x v h1 k
  else none
def heavyB (env:Env) (o:Oper):Bool:=
 match o.op with
 |.call { callee:=.value (.func f),.. }=>(env.fs f).isNone
 |.call { callee:=.value _,.. }=>true
 |_=>false
def looksO:Op→Option Nat
 |.load _ (.tmp t)=>some t
 |.nilCheck (.tmp t)=>some t
 |.fieldAddr _ (.tmp t) _=>some t
 |.indexAddr _ (.tmp t) _=>some t
 |_=>none
def unordB (ws:List (List Nat)) (i j:Nat):Bool:=i != j&&(!(ws.getD i []).contains j&&!(ws.getD j []).contains i)
def hidSet (env:Env) (base:Nat) (ops:List Oper) (ws:List (List Nat)) (s:AS):List Nat × List Nat:=
 let hs:=(List.range ops.length).filter fun i=>match ops[i]? with|some o=>heavyB env o|none=>false
 bif hs.isEmpty then ([],[]) else
 let fl:=(List.range ops.length).filter fun j=>hs.any fun i=>unordB ws i j
 let ms:=(fl.filter fun j=>match ops[j]? with|some o=>isAlloc (rpOf ops) o.op|none=>false).map (placeOf base ops)
 (ms,dedup (fl.flatMap fun j=>match ops[j]? with
  |some o=>(match looksO o.op with
   |some t=>(match s.get (rootOf ops 12 t) with|.op i _=>bif boxX s.heap i then [i] else []|_=>[])
   |none=>[])
  |none=>[]))
def seqB (ws:List (List Nat)) (ps:List Nat) (seen:List (Nat × Oper × Foot)):Bool:=
 match ps with
 | [p]=>seen.all fun e=>e.1==p || (ws.getD p []).contains e.1
 |_=>false
def evDraw (env:Env) (base:Nat) (ops:Array Oper) (ws:List (List Nat)):List Oper→Nat→AS→Option (List Nat × AVal)→List (Nat × Oper × Foot)→(Option AVal→AS→Option α)→Option α
 | [],_,s,none,_,k=>k none s
 | [],_,s,some (ps,v),seen,k=>
   bif seen.all (fun e=>!offD ws e.1 (some (ps,v)))&&(seen.all (fun e=>highB base e.2.2) || seqB ws ps seen) then k (some v) s else none
 |o::r,i,s,pan,seen,k=>
  bif offD ws i pan then evDraw env base ops ws r (i+1) s pan seen k
  else bif !edgeB o i then none else
  let chk (f:Foot) (m:Option α):Option α:=bif chkD env ops ws i o f seen then m else none
  let pass (s:AS):Option α:=chk Foot.no (evDraw env base ops ws r (i+1) (s.put o.dst .undef) pan ((i,o,Foot.no)::seen) k)
  let go (s:AS):Option α:=
   let n:=placeOf base ops.toList i
   let f:=footOf env.fs (rpOf ops.toList) n s.ev o.op
   chk f (evD C T env (rpOf ops.toList) n o.op o.type s.ev s.heap fun x v h=>
    match x with
    |.normal=>evDraw env base ops ws r (i+1) (({ s with heap:=h }:AS).put o.dst v) pan ((i,o,f)::seen) k
    |.pan v=>
     match pan with
     |some (ps,u)=>if samePan u v=true then evDraw env base ops ws r (i+1) { s with heap:=h } (some (i::ps,u)) ((i,o,f)::seen) k else none
     |none=>evDraw env base ops ws r (i+1) { s with heap:=h } (some ([i],v)) ((i,o,f)::seen) k
    |_=>none)
  match o.guard with
  |none=>go s
  |some (j,want)=>
   match (ops[j]?).bind (·.dst) with
   |none=>none
   |some d=>
    match s.get d with
    |.bool b=>
     C.part b (bif want then go (s.put (some d) (.bool true)) else pass (s.put (some d) (.bool true)))
      (bif want then pass (s.put (some d) (.bool false)) else go (s.put (some d) (.bool false)))
    |.undef=>pass s
    |_=>none
def Env.withHid (env:Env) (hd:List Nat × List Nat):Env:={ env with msk:=hd.1,lck:=hd.2 }
def evRegion (env:Env) (ops:Array Oper) (s:AS) (k:AExit→AS→Option α):Option α:=
 evDraw C T (env.withHid (hidSet env s.heap.length ops.toList (waitsL ops.toList []) s)) s.heap.length ops (waitsL ops.toList []) ops.toList 0 { s with heap:=s.heap++List.replicate ((ops.toList.filter fun o=>isAlloc (rpOf ops.toList) o.op).length) .free } none [] fun pan s'=>
  match pan with
  |none=>k .normal { s' with heap:=s'.heap.map unfreeB }
  |some v=>k (.pan v) { tmps:=s.tmps.map fun _=>.any,heap:=s'.heap.take s.heap.length++List.replicate (s'.heap.length-s.heap.length) .dead }
end
def roOf (i:Nat) (e:Sh) (xs:List e.ty):AVal→AVal
 |.own j=>if j=i then .ro e xs else .own j
 |v=>v
def stayI (i:Nat) (s:AS):AS:=
 match s.heap.getD i .dead with
 |.row true _ e xs=>
  if 0<e.size then
   match killZ true s.heap [i] with
   |some h=>{ tmps:=s.tmps.map (roOf i e xs),heap:=h }
   |none=>s
  else s
 |_=>s
def stayT (d:Nat) (s:AS):AS:=
 match s.tmps.getD d .any with
 |.own i=>stayI i s
 |_=>s
def isAppO:Op→Bool
 |.call { callee:=.builtin .append,.. }=>true
 |_=>false
def stayO (s:AS) (o:Oper):AS:=
 match o.dst with
 |some d=>bif isAppO o.op then stayT d s else s
 |none=>s
def stayR (ops:List Oper) (s:AS):AS:=ops.foldl stayO s
def tryFs:List Nat:=[
 143,
 999999]
def isTryO (o:Oper):Bool:=
 match o.op with
 |.call { callee:=.value (.func f),.. }=>tryFs.contains f
 |_=>false
def stayL (l:List Nat) (s:AS):AS:=l.foldl (fun s i=>stayI i s) s
def stayQ (ops:List Oper) (s:AS):AS:=bif ops.any isTryO then stayL (List.range s.heap.length) s else s
def isStoO (o:Oper):Bool:=
 match o.op with
 |.store _ _ _=>true
 |_=>false
def stoRows (ops:List Oper) (s:AS):List Nat:=ops.filterMap fun o=>
 match o.op with
 |.indexAddr _ (.tmp t) _=>(match s.get t with|.own i=>some i|_=>none)
 |_=>none
def stayS (ops:List Oper) (s:AS):AS:=bif ops.any isStoO then stayL (stoRows ops s) s else s
def stayF (env:Env) (ops:List Oper) (s:AS):AS:=bif env.apz then stayR ops s else bif env.frt then stayQ ops s else bif env.sts then stayS ops s else s
def stayK {α:Type} (env:Env) (ops:Array Oper) (k:AExit→AS→Option α) (x:AExit) (s:AS):Option α:=
 match x with
 |.normal=>k .normal (stayF env ops.toList s)
 |x=>k x s
section
variable (C:Comb) (T:Tab)
def ev (env:Env) (N:Nat):Code→{α:Type}→AS→(AExit→AS→Option α)→Option α
 |.skip,_,s,k=>k .normal s
 |.label _,_,s,k=>k .normal s
 |.region _ ops draw,_,s,k=>
  bif draw then evRegion C T env ops s (stayK env ops k)
  else evOps C T env false ops ops.toList s fun x s'=>
   match x with
   |.normal=>stayK env ops k .normal s'
   |.pan v=>k (.pan v) s'
   |_=>none
 |.seq a b,_,s,k=>ev env N a s fun x s'=>
  match x with
  |.normal=>ev env N b s' k
  |x=>k x s'
 |.cond c a b,_,s,k=>
  match s.ev c with
  |.bool t=>C.part t (ev env N a s k) (ev env N b s k)
  |_=>none
 |.block id c,_,s,k=>ev env N c s fun x s'=>
  match x with
  |.exit j=>if j=id then k .normal s' else k (.exit j) s'
  |x=>k x s'
 |.loop c,α,s,k=>
  match loopAt (callsB env s (opsOf c) || hasRange c || (env.few&&(thruB (opsOf c) || aliasB s (opsOf c) || oeB env s (opsOf c)))) (bif env.few then some (wrOf env s.heap 6 s.tmps c) else none) s c with
  |none=>none
  |some L=>
   match L.ex s with
   |none=>none
   |some x0=>
    let outs:=dedup (exitsOf c)
    C.loop N (fun x=>ev env N c (α:=LRes L.ty α) (L.state s true x) fun e s'=>
      match e with
      |.normal=>(match L.ex s' with|some y=>some (.cont y)|none=>none)
      |.exit id=>if id∈outs then (match L.ex s' with|some y=>some (.brk id y)|none=>none) else none
      |e=>C.fin (k e { s' with heap:=unlockH s.heap s'.heap })) x0
     fun id y=>goOut C outs id y fun o y=>k (.exit o) (L.state s false y)
 |.exit id,_,s,k=>k (.exit id) s
 |.ret,_,s,k=>k .ret s
 |.scope c,_,s,k=>ev env N c s k
 |.rangeFunc f ps asg body,α,s,k=>
  bif hasRange asg || hasRange body then none else
  match s.ev f with
  |.fn fid caps=>
   env.cv α (.fn fid caps) [.yld s.heap.length] (s.heap++[.lp .ready none s.tmps ps.toList asg body]) fun x _ h=>
    match x with
    |.normal=>
     match h.getD s.heap.length .dead with
     |.lp .busy _ _ _ _ _=>none
     |.lp _ none _ _ _ _=>k .normal { s with heap:=h.set s.heap.length .dead }
     |.lp _ (some .ret) _ _ _ _=>k .ret { s with heap:=h.set s.heap.length .dead }
     |.lp _ (some (.exit id)) _ _ _ _=>k (.exit id) { s with heap:=h.set s.heap.length .dead }
     |_=>none
    |.pan v=>k (.pan v) { s with heap:=h.set s.heap.length .dead }
    |_=>none
  |_=>none
 |_,_,_,_=>none
def resOf (s:AS):List ResultVar→Option (List AVal)
 | []=>some []
 |.tmp t::r=>
  match resOf s r with
  |some l=>some (s.get t::l)
  |none=>none
 |.cell a t::r=>
  match cellsAt s.heap (s.get a),resOf s r with
  |some cs,some l=>
   match packT T t cs with
   |some v=>some (v::l)
   |none=>none
  |_,_=>none
def evBody (env:Env) (N:Nat) (fn:Func) {α:Type} (args:List AVal) (h:List ABlk) (k:AExit→AVal→List ABlk→Option α):Option α:=
 match fn.body with
 |none=>none
 |some c=>
  ev C T env N c (α:=α) { tmps:=args++List.replicate (fn.ntmps-args.length) .undef,heap:=h } fun x s=>
   match x with
   |.pan v=>k (.pan v) .any s.heap
   |.exit _=>none
   |_=>
    match resOf T s fn.results.toList with
    |none=>none
    |some vs=>k .normal (match vs with|[v]=>v|vs=>.tup vs) s.heap
def evFn (env:Env) (N:Nat) (fn:Func):Fsp:=fun _ args k=>
 evBody C T env N fn args [] fun x v h=>
  match x with
  |.pan v=>
   match peek2 h v with
   |some u=>k (.pan u)
   |none=>none
  |_=>
   match peek2 h v with
   |some u=>k (.ret u)
   |none=>none
def setTmps:List AVal→List Nat→List AVal→List AVal
 |ts,p::ps,a::aw=>setTmps (ts.set p a) ps aw
 |ts,_,_=>ts
def evRound (env:Env) (N:Nat) {α:Type} (i:Nat) (args:List AVal) (h:List ABlk) (k:AExit→AVal→List ABlk→Option α):Option α:=
 match h.getD i .dead with
 |.lp _ _ tmps ps asg body=>
  if args.length=ps.length then
   bif hasRange asg || hasRange body then none else
   ev C T env N asg { tmps:=setTmps tmps ps args,heap:=h } fun x s=>
    match x with
    |.normal=>
     match s.heap.getD i .dead with
     |.lp .ready pend tmps ps asg bo=>
      ev C T env N body { s with heap:=s.heap.set i (.lp .busy pend tmps ps asg bo) } fun x s=>
       match s.heap.getD i .dead with
       |.lp _ _ tmps ps asg bo=>
        match x with
        |.normal=>k .normal (.bool true) (s.heap.set i (.lp .ready none tmps ps asg bo))
        |.ret=>k .normal (.bool false) (s.heap.set i (.lp .done (some .ret) tmps ps asg bo))
        |.exit id=>k .normal (.bool false) (s.heap.set i (.lp .done (some (.exit id)) tmps ps asg bo))
        |.pan v=>k (.pan v) .any s.heap
       |_=>none
     |_=>none
    |_=>none
  else none
 |_=>none
def keepB (h:List ABlk) (n:Nat) (v:AVal):List Nat:=
 let r0:=dedup (refsN 6 v++(h.take n).flatMap refsB)
 reachN h 20 r0 r0
def dropH (keep:List Nat) (n:Nat):Nat→List ABlk→List ABlk
 |_,[]=>[]
 |i,b::r=>(if i<n || keep.contains i then b else .dead)::dropH keep n (i+1) r
structure Tower where
 fs:FuncId→Option Fsp
 pr:FuncId→Bool
 sp:FuncId→Option (Cv→Cv)
 fn:FuncId→Option Func
def cvN (tw:Tower) (N:Nat):Nat→Cv
 |0=>fun _ _ _ _ _=>none
 |n+1=>fun _ v args h k=>
  match v with
  |.fn f caps=>
   match tw.sp f with
   |some S=>S (cvN tw N n) _ v args h k
   |none=>
    match (bif Env.inn { fs:=tw.fs,pr:=tw.pr,cv:=fun _ _ _ _ _=>none } f then none else tw.fs f) with
    |some S=>evPure S false false (args++caps) h k
    |none=>
     match tw.fn f with
     |some fn=>evBody C T { fs:=tw.fs,pr:=tw.pr,cv:=cvN tw N n } N fn (args++caps) h fun x v h'=>k x v (dropH (keepB h' h.length v) h.length 0 h')
     |none=>none
  |.yld i=>evRound C T { fs:=tw.fs,pr:=tw.pr,cv:=cvN tw N n } N i args h k
  |_=>none
def Tower.env (tw:Tower) (N n:Nat):Env:={ fs:=tw.fs,pr:=tw.pr,cv:=cvN C T tw N n }
end
open Go.RowKit
structure Gh where
 ρ:Nat→Value
 M:Nat→Prop
def Here (h:List ABlk) (i:Nat):Prop:=∃b,h[i]?=some b∧b≠.free
theorem Here.lt {h:List ABlk} {i:Nat} (a:Here h i):i<h.length:=by
 obtain⟨b,hb,_⟩:=a
 exact (List.getElem?_eq_some_iff.1 hb).1
theorem Here.of {h:List ABlk} {i:Nat} {b:ABlk} (hb:h[i]?=some b) (hn:b≠.free):Here h i:=⟨b,hb,hn⟩
inductive Rep (h:List ABlk) (g:Gh) (w:World):AVal→Value→Prop where
 |any (v:Value):Rep h g w .any v
 |undef:Rep h g w .undef Go.undef
 |int (k:IntKind) (n:Int):Rep h g w (.int k n) (.int k n)
 |bool (b:Bool):Rep h g w (.bool b) (.bool b)
 |str (s:ByteArray):Rep h g w (.str s) (.string s)
 |agg (cs:List AVal) (arr:Array Value):cs.length=arr.size→(∀(j:Nat) c x,cs[j]?=some c→arr[j]?=some x→Rep h g w c x)→Rep h g w (.agg cs) (.agg arr)
 |nils:Rep h g w .nils (.slice none 0 0)
 |ro0 (e:Sh) (p:Option Addr) (c:Nat):c≤maxLen→(p=none→c=0)→Rep h g w (.ro e []) (.slice p 0 c)
 |ro1 (e:Sh) (xs:List e.ty) (b o c:Nat) (us:Nat→Nat→Value):0<xs.length→xs.length≤c→c≤maxLen→g.M b →
   (∀(n:Nat) x (j:Nat) cc,xs[n]?=some x→(e.cells x)[j]?=some cc→w.cell? ⟨b,o+n*e.size+j,none⟩=some (us n j)) →
   (∀(n:Nat) x (j:Nat) cc,xs[n]?=some x→(e.cells x)[j]?=some cc→Rep h g w cc (us n j)) →
   Rep h g w (.ro e xs) (.slice (some ⟨b,o,none⟩) xs.length c)
 |rp (cs:List AVal) (b o:Nat) (us:Nat→Value):g.M b→(∀(j:Nat) c,cs[j]?=some c→w.cell? ⟨b,o+j,none⟩=some (us j)) →
   (∀(j:Nat) c,cs[j]?=some c→Rep h g w c (us j))→Rep h g w (.rp cs) (.pointer (some ⟨b,o,none⟩))
 |own (i:Nat) (v:Value):Here h i→v.oneCell'=true→(∀wr t e xs,h[i]?=some (.row wr t e xs)→v=g.ρ i)→Rep h g w (.own i) v
 |op (i off:Nat) (v:Value):Here h i→v.oneCell'=true→(∀wr cs,h[i]?=some (.box wr cs)→∃b,g.ρ i=.pointer (some ⟨b,0,none⟩)∧v=.pointer (some ⟨b,off,none⟩))→Rep h g w (.op i off) v
 |oe (i ix off:Nat) (v:Value):Here h i→v.oneCell'=true→(∀wr t e xs,h[i]?=some (.row wr t e xs)→0<e.size→ix<xs.length∧∃b n c,g.ρ i=.slice (some ⟨b,0,none⟩) n c∧v=.pointer (some ⟨b,ix*e.size+off,none⟩))→Rep h g w (.oe i ix off) v
 |fn (f:FuncId) (caps:List AVal) (arr:Array Value):caps.length=arr.size→(∀(j:Nat) c x,caps[j]?=some c→arr[j]?=some x→Rep h g w c x)→Rep h g w (.fn f caps) (.func (.func f) #[] arr)
 |tup (cs:List AVal) (arr:Array Value):cs.length=arr.size→(∀(j:Nat) c x,cs[j]?=some c→arr[j]?=some x→Rep h g w c x)→Rep h g w (.tup cs) (.tuple arr)
 |ifc (t:TypeId) (c:AVal) (x:Value):Rep h g w c x→Rep h g w (.ifc t c) (.iface t x)
 |nilif:Rep h g w .nilif .nilIface
 |nilfn:Rep h g w .nilfn .nilFunc
 |nilmp:Rep h g w .nilmp (.map none)
 |nilpt:Rep h g w .nilpt (.pointer none)
 |yld (i:Nat) (v:Value):Here h i→v.oneCell'=true→(∀st pend tmps ps aw bo,h[i]?=some (.lp st pend tmps ps aw bo)→v=g.ρ i)→Rep h g w (.yld i) v
def blockOf:Value→Option Nat
 |.pointer (some a)=>some a.block
 |.slice (some a) _ _=>some a.block
 |.map (some r)=>some r
 |.func (.yield l) _ _=>some l
 |_=>none
def RowOk (h:List ABlk) (g:Gh) (w:World) (v:Value) (t:TypeId):(e:Sh)→List e.ty→Prop
 |.mp ks vs,xs=>∃(r:Nat) (es:Array MapEntry) (clock:Nat),v=.map (some r)∧w.heap[r]?=some (.map es clock)∧es.size=xs.length∧((∀x∈es.toList,x.born<clock)∧(es.toList.map (·.born)).Nodup) ∧
   ∀(n:Nat) (x:ks.ty × vs.ty) (en:MapEntry),xs[n]?=some x→es[n]?=some en→Rep h g w (ks.val x.1) en.key∧Rep h g w (vs.val x.2) en.val
 |e,xs=>0<e.size∧∃vs,w.ownsRow 0 t e.size v xs.length vs∧∀(n:Nat) x (j:Nat) c,xs[n]?=some x→(e.cells x)[j]?=some c→∃u,vs[n*e.size+j]?=some u∧Rep h g w c u
theorem rowOk_iff {h:List ABlk} {g:Gh} {w:World} {v:Value} {t:TypeId} {e:Sh} {xs:List e.ty} (h0:0<e.size):RowOk h g w v t e xs↔∃vs,w.ownsRow 0 t e.size v xs.length vs∧∀(n:Nat) x (j:Nat) c,xs[n]?=some x→(e.cells x)[j]?=some c→∃u,vs[n*e.size+j]?=some u∧Rep h g w c u:=by
 cases e with
 |mp ks vs=>exact absurd h0 (Nat.lt_irrefl 0)
 |_=>exact⟨fun o=>o.2,fun o=>⟨h0,o⟩⟩
theorem rowOk_cases {h:List ABlk} {g:Gh} {w:World} {v:Value} {t:TypeId} {e:Sh} {xs:List e.ty} (o:RowOk h g w v t e xs):0<e.size∨∃ks vs,e=.mp ks vs:=by
 cases e with
 |mp ks vs=>exact .inr ⟨ks,vs,rfl⟩
 |_=>exact .inl o.1
def FnIn (f:FuncId):Prop:=∃fn,Tryz.prog.funcs[f]?=some fn
def BlkOk (h:List ABlk) (g:Gh) (w:World) (i:Nat):ABlk→Prop
 |.dead=>True
 |.free=>True
 |.box _ cs=>∃b arr t,g.ρ i=.pointer (some ⟨b,0,none⟩)∧w.heap[b]?=some (.cells arr t (0,0))∧arr.size=cs.length∧∀(j:Nat) c x,cs[j]?=some c→arr[j]?=some x→c.scalar=true∧Rep h g w c x
 |.row _ t e xs=>RowOk h g w (g.ρ i) t e xs
 |.lp st pend ts ps aw bo=>∃l arr fn D,g.ρ i=.func (.yield l) #[] #[]∧w.heap[l]?=some (.loop { state:=st,pending:=pend,fn,tmps:=arr,params:=ps.toArray,assign:=aw,body:=bo,defers:=D })∧arr.size=ts.length∧(∀(j:Nat) c x,ts[j]?=some c→arr[j]?=some x→Rep h g w c x)∧FnIn fn
def alive (h:List ABlk) (i:Nat):Prop:=∃b,h[i]?=some b∧b≠.dead
structure St (K:Nat→Prop) (h:List ABlk) (g:Gh) (w:World):Prop where
 blk:∀i b,h[i]?=some b→BlkOk h g w i b
 inj:∀i j b,alive h i→alive h j→blockOf (g.ρ i)=some b→blockOf (g.ρ j)=some b→i=j
 sep:∀i b,alive h i→blockOf (g.ρ i)=some b→¬K b∧¬g.M b∧b<w.heap.size
 low:∀b,g.M b→b<w.heap.size
 klow:∀b,K b→b<w.heap.size
structure Le (K:Nat→Prop) (h:List ABlk) (g:Gh) (w:World) (h':List ABlk) (g':Gh) (w':World):Prop where
 len:h.length≤h'.length
 here:∀(i:Nat),Here h i→Here h' i
 m:∀(b:Nat),g.M b→g'.M b
 new:∀(b:Nat),g'.M b→g.M b∨¬K b
 mw:∀(b:Nat),g.M b→w'.heap[b]?=w.heap[b]?
 k:∀(b:Nat),K b→w'.heap[b]?=w.heap[b]?
 box:∀(i:Nat) wr cs',Here h i→h'[i]?=some (ABlk.box wr cs')→∃wr0 cs,h[i]?=some (ABlk.box wr0 cs)∧cs'.length=cs.length∧g'.ρ i=g.ρ i
 row:∀(i:Nat) wr t e xs',Here h i→h'[i]?=some (ABlk.row wr t e xs')→∃wr0 xs,h[i]?=some (ABlk.row wr0 t e xs)∧(0<e.size→xs'.length=xs.length)∧g'.ρ i=g.ρ i
 lp:∀(i:Nat) st pend ts ps aw bo,Here h i→h'[i]?=some (ABlk.lp st pend ts ps aw bo)→∃st0 pend0,h[i]?=some (ABlk.lp st0 pend0 ts ps aw bo)∧g'.ρ i=g.ρ i
 lockb:∀(i:Nat) cs,h[i]?=some (ABlk.box false cs)→h'[i]?=some (ABlk.box false cs)
 lockr:∀(i:Nat) t e xs,h[i]?=some (ABlk.row false t e xs)→h'[i]?=some (ABlk.row false t e xs)
 os:w'.os=w.os
 tape:w'.tape=w.tape
 output:w'.output=w.output
 size:w.heap.size≤w'.heap.size
theorem Le.refl {K h g w}:Le K h g w h g w:=
 ⟨Nat.le_refl _,fun _ h=>h,fun _ h=>h,fun _ h=>.inl h,fun _ _=>rfl,fun _ _=>rfl,fun _ wr cs' _ h=>⟨wr,cs',h,rfl,rfl⟩,fun _ wr _ _ xs' _ h=>⟨wr,xs',h,fun _=>rfl,rfl⟩,fun _ st pend _ _ _ _ _ h=>⟨st,pend,h,rfl⟩,fun _ _ h=>h,fun _ _ _ _ h=>h,rfl,rfl,rfl,Nat.le_refl _⟩
theorem Le.trans {K h g w h1 g1 w1 h2 g2 w2} (a:Le K h g w h1 g1 w1) (b:Le K h1 g1 w1 h2 g2 w2):Le K h g w h2 g2 w2 where
 len:=Nat.le_trans a.len b.len
 here:=fun i h=>b.here i (a.here i h)
 m:=fun x hx=>b.m x (a.m x hx)
 new:=fun x hx=>(b.new x hx).elim (fun h=>a.new x h) .inr
 mw:=fun x hx=>(b.mw x (a.m x hx)).trans (a.mw x hx)
 k:=fun x hx=>(b.k x hx).trans (a.k x hx)
 box:=fun i wr cs' hi h=>by
  obtain⟨_,cs,h1,l1,r1⟩:=b.box i wr cs' (a.here i hi) h
  obtain⟨_,ds,h2,l2,r2⟩:=a.box i _ cs hi h1
  exact⟨_,ds,h2,l1.trans l2,r1.trans r2⟩
 row:=fun i wr t e xs' hi h=>by
  obtain⟨_,cs,h1,l1,r1⟩:=b.row i wr t e xs' (a.here i hi) h
  obtain⟨_,ds,h2,l2,r2⟩:=a.row i _ t e cs hi h1
  exact⟨_,ds,h2,fun h0=>(l1 h0).trans (l2 h0),r1.trans r2⟩
 lp:=fun i st pend ts ps aw bo hi h=>by
  obtain⟨_,_,h1,r1⟩:=b.lp i st pend ts ps aw bo (a.here i hi) h
  obtain⟨st2,p2,h2,r2⟩:=a.lp i _ _ ts ps aw bo hi h1
  exact⟨st2,p2,h2,r1.trans r2⟩
 lockb:=fun i cs h=>b.lockb i cs (a.lockb i cs h)
 lockr:=fun i t e xs h=>b.lockr i t e xs (a.lockr i t e xs h)
 os:=b.os.trans a.os
 tape:=b.tape.trans a.tape
 output:=b.output.trans a.output
 size:=Nat.le_trans a.size b.size
theorem cell_same {w w':World} {b o:Nat} (h:w'.heap[b]?=w.heap[b]?):w'.cell? ⟨b,o,none⟩=w.cell? ⟨b,o,none⟩:=
 World.cell?_of_block (a:=⟨b,o,none⟩) h
theorem Rep.mono {K h g w h' g' w'} {v:AVal} {x:Value} (r:Rep h g w v x) (l:Le K h g w h' g' w'):Rep h' g' w' v x:=by
 induction r with
 |any v=>exact .any v
 |undef=>exact .undef
 |int k n=>exact .int k n
 |bool b=>exact .bool b
 |str s=>exact .str s
 |agg cs arr hl _ ih=>exact .agg cs arr hl ih
 |nils=>exact .nils
 |ro0 e p c hc hc'=>exact .ro0 e p c hc hc'
 |ro1 e xs b o c us h0 h1 h2 hm hc _ ih=>exact .ro1 e xs b o c us h0 h1 h2 (l.m b hm) (fun n x j cc a a'=>(cell_same (l.mw b hm)).trans (hc n x j cc a a')) ih
 |rp cs b o us hm hc _ ih=>exact .rp cs b o us (l.m b hm) (fun j c a=>(cell_same (l.mw b hm)).trans (hc j c a)) ih
 |own i v hi h1 hv=>
  refine .own i v (l.here i hi) h1 fun wr t e xs' hx=>?_
  obtain⟨_,xs,h1,_,h3⟩:=l.row i wr t e xs' hi hx
  rw[h3]; exact hv _ t e xs h1
 |op i off v hi h1 hv=>
  refine .op i off v (l.here i hi) h1 fun wr cs' hx=>?_
  obtain⟨_,cs,h1,_,h3⟩:=l.box i wr cs' hi hx
  rw[h3]; exact hv _ cs h1
 |oe i ix off v hi h1 hv=>
  refine .oe i ix off v (l.here i hi) h1 fun wr t e xs' hx h0=>?_
  obtain⟨_,xs,h1,h2,h3⟩:=l.row i wr t e xs' hi hx
  rw[h3,h2 h0]; exact hv _ t e xs h1 h0
 |fn f caps arr hl _ ih=>exact .fn f caps arr hl ih
 |tup cs arr hl _ ih=>exact .tup cs arr hl ih
 |ifc t c x _ ih=>exact .ifc t c x ih
 |nilif=>exact .nilif
 |nilfn=>exact .nilfn
 |nilmp=>exact .nilmp
 |nilpt=>exact .nilpt
 |yld i v hi h1 hv=>
  refine .yld i v (l.here i hi) h1 fun st pend ts ps aw bo hx=>?_
  obtain⟨_,_,h1,h3⟩:=l.lp i st pend ts ps aw bo hi hx
  rw[h3]; exact hv _ _ ts ps aw bo h1
def TRep (h:List ABlk) (g:Gh) (w:World) (ts:List AVal) (tmps:Array Value):Prop:=
 ts.length=tmps.size∧∀(j:Nat) c x,ts[j]?=some c→tmps[j]?=some x→Rep h g w c x
theorem TRep.mono {K h g w h' g' w'} {ts:List AVal} {tmps:Array Value} (r:TRep h g w ts tmps) (l:Le K h g w h' g' w'):TRep h' g' w' ts tmps:=
 ⟨r.1,fun j c x a b=>(r.2 j c x a b).mono l⟩
theorem TRep.put {h g w} {s:AS} {a:Act} (r:TRep h g w s.tmps a.tmps) (dst:Option Nat) {v:AVal} {x:Value} (hv:Rep h g w v x) :
  TRep h g w (s.put dst v).tmps (a.put dst x).tmps:=by
 cases dst with
 |none=>exact r
 |some d=>
  refine⟨by simpa[AS.put,Act.put] using r.1,fun j c y hc hy=>?_⟩
  simp only[AS.put,Act.put] at hc hy
  rw[List.getElem?_set] at hc
  rw[Array.getElem?_setIfInBounds] at hy
  by_cases e:d=j
  ·subst e
   simp only[if_true] at hc hy
   split at hc
   ·split at hy
    ·cases hc; cases hy; exact hv
    ·cases hy
   ·cases hc
  ·rw[if_neg e] at hc hy
   exact r.2 j c y hc hy
theorem rep_scalar {h g w} (v:Value):Rep h g w (ofScalar v) v:=by
 unfold ofScalar
 split<;>first|exact .int _ _|exact .bool _|exact .str _|exact .nils|exact .nilif|exact .nilfn|exact .nilmp|exact .nilpt|exact .any _
theorem rep_value {h g w} (v:Value):Rep h g w (ofValue v) v:=by
 unfold ofValue
 split
 ·rename_i cs
  refine .agg _ _ (by simp) fun j c x hc hx=>?_
  rw[List.getElem?_map] at hc
  have:cs.toList[j]?=some x:=by simpa using hx
  rw[this] at hc
  cases hc
  exact rep_scalar x
 ·exact rep_scalar v
theorem TRep.get {h g w} {ts:List AVal} {tmps:Array Value} (r:TRep h g w ts tmps) (t:Nat):Rep h g w (ts.getD t .any) (tmps.getD t Go.undef):=by
 rw[List.getD_eq_getElem?_getD]
 have e:tmps.getD t Go.undef=(tmps[t]?).getD Go.undef:=by simp[Array.getD_eq_getD_getElem?]
 rw[e]
 rcases Nat.lt_or_ge t ts.length with hl|hl
 ·rw[List.getElem?_eq_getElem hl]
  rw[Array.getElem?_eq_getElem (by rw[←r.1]; exact hl)]
  exact r.2 t _ _ (List.getElem?_eq_getElem hl) (Array.getElem?_eq_getElem (by rw[←r.1]; exact hl))
 ·rw[List.getElem?_eq_none hl]
  exact .any _
theorem TRep.ev {h g w} {s:AS} {a:Act} (r:TRep h g w s.tmps a.tmps) (x:Operand):Rep h g w (s.ev x) (a.eval x):=by
 cases x with
 |tmp t=>exact r.get t
 |const v=>exact rep_value v
 |func f=>exact .fn f [] #[] rfl (fun j c x hc _=>by simp at hc)
 |global n=>exact .any _
structure TyOk (P:Program) (t:TypeId) (e:TyE):Prop where
 d:match e.d with
  |.int k=>P.underlying t=some (.int k)
  |.bool=>P.underlying t=some .bool
  |.str=>P.underlying t=some .string
  |.sl x=>P.underlying t=some (.slice x)
  |.arr n x=>P.underlying t=some (.array n x)
  | .recd l => ∃ fs, P.underlying t = some (.struct fs) ∧ fs.toList.map (fun f => (f.offset, f.type)) = l ∧ P.stoodInHeld t = false ∧ P.eqGuardType P.depth t = false ∧ ∀ f ∈ fs.toList, f.name ≠ "_"
  |.map k v=>P.underlying t=some (.map k v)
  |.ifc=>∃m,P.underlying t=some (.interface m)
  |.other=>∃d,P.underlying t=some d∧(∀fs,d≠.struct fs)∧(∀n x,d≠.array n x)∧∀m,d≠.interface m
 guard:∀n x,e.d=.arr n x→P.eqGuardType P.depth t=false
 info:∃i,P.info? t=some i∧i.size=e.size∧i.bytes=e.bytes∧∀z,e.zero=some z→∃v,i.zero=some v∧ofValue v=z
structure TabOk (P:Program) (T:Tab):Prop where
 pr:P=Tryz.prog
 ty:∀t e,T.at t=some e→TyOk P t e
section
variable {P:Program} {T:Tab} (hT:TabOk P T)
include hT
theorem und_sl {t x:TypeId} (h:T.und t=some (.sl x)):P.underlying t=some (.slice x):=by
 unfold Tab.und at h
 split at h
 ·rename_i e he; have:=(hT.ty t e he).d; cases h':e.d<;>rw[h'] at this h<;>cases h; exact this
 ·cases h
theorem und_int {t:TypeId} {k:IntKind} (h:T.und t=some (.int k)):P.underlying t=some (.int k):=by
 unfold Tab.und at h
 split at h
 ·rename_i e he; have:=(hT.ty t e he).d; cases h':e.d<;>rw[h'] at this h<;>cases h; exact this
 ·cases h
theorem und_bool {t:TypeId} (h:T.und t=some .bool):P.underlying t=some .bool:=by
 unfold Tab.und at h
 split at h
 ·rename_i e he; have:=(hT.ty t e he).d; cases h':e.d<;>rw[h'] at this h<;>cases h; exact this
 ·cases h
theorem und_str {t:TypeId} (h:T.und t=some .str):P.underlying t=some .string:=by
 unfold Tab.und at h
 split at h
 ·rename_i e he; have:=(hT.ty t e he).d; cases h':e.d<;>rw[h'] at this h<;>cases h; exact this
 ·cases h
theorem und_arr {t x:TypeId} {n:Nat} (h:T.und t=some (.arr n x)):P.underlying t=some (.array n x):=by
 unfold Tab.und at h
 split at h
 ·rename_i e he; have:=(hT.ty t e he).d; cases h':e.d<;>rw[h'] at this h<;>cases h; exact this
 ·cases h
theorem arr_guard {t x:TypeId} {n:Nat} (h:T.und t=some (.arr n x)):P.eqGuardType P.depth t=false:=by
 unfold Tab.und at h
 split at h
 ·rename_i e he
  have:=(hT.ty t e he).guard n x
  cases h':e.d<;>rw[h'] at h<;>cases h
  exact this h'
 ·cases h
theorem und_map {t k v:TypeId} (h:T.und t=some (.map k v)):P.underlying t=some (.map k v):=by
 unfold Tab.und at h
 split at h
 ·rename_i e he; have:=(hT.ty t e he).d; cases h':e.d<;>rw[h'] at this h<;>cases h; exact this
 ·cases h
theorem und_recd' {t : TypeId} {l : List (Nat × TypeId)} (h : T.und t = some (.recd l)) : ∃ fs, P.underlying t = some (.struct fs) ∧ fs.toList.map (fun f => (f.offset, f.type)) = l ∧ P.stoodInHeld t = false ∧ P.eqGuardType P.depth t = false ∧ ∀ f ∈ fs.toList, f.name ≠ "_" := by
 unfold Tab.und at h
 split at h
 ·rename_i e he; have:=(hT.ty t e he).d; cases h':e.d<;>rw[h'] at this h<;>cases h; exact this
 ·cases h
theorem und_recd {t:TypeId} {l:List (Nat × TypeId)} (h:T.und t=some (.recd l)):∃fs,P.underlying t=some (.struct fs)∧fs.toList.map (fun f=>(f.offset,f.type))=l:=by
 obtain⟨fs,h1,h2,_⟩:=und_recd' hT h
 exact⟨fs,h1,h2⟩
theorem und_ifc {t:TypeId} (h:T.und t=some .ifc):∃m,P.underlying t=some (.interface m):=by
 unfold Tab.und at h
 split at h
 ·rename_i e he; have:=(hT.ty t e he).d; cases h':e.d<;>rw[h'] at this h<;>cases h; exact this
 ·cases h
theorem und_other {t:TypeId} (h:T.und t=some .other):∃d,P.underlying t=some d∧(∀fs,d≠.struct fs)∧(∀n x,d≠.array n x)∧∀m,d≠.interface m:=by
 unfold Tab.und at h
 split at h
 ·rename_i e he; have:=(hT.ty t e he).d; cases h':e.d<;>rw[h'] at this h<;>cases h; exact this
 ·cases h
theorem tab_info {t:TypeId} {d:TyD} (h:T.und t=some d):∃i,P.info? t=some i∧i.size=T.size t∧i.bytes=T.bytes t∧∀z,T.zero t=some z→∃v,i.zero=some v∧ofValue v=z:=by
 unfold Tab.und at h
 split at h
 ·rename_i e he
  obtain⟨i,h1,h2,h3,h4⟩:=(hT.ty t e he).info
  refine⟨i,h1,?_,?_,?_⟩
  ·rw[h2]; simp[Tab.size,he]
  ·rw[h3]; simp[Tab.bytes,he]
  ·intro z hz; exact h4 z (by simpa[Tab.zero,he] using hz)
 ·cases h
theorem tab_zero {t:TypeId} {z:AVal} (h:T.zero t=some z):∃i v,P.info? t=some i∧i.size=T.size t∧i.bytes=T.bytes t∧i.zero=some v∧ofValue v=z:=by
 unfold Tab.zero at h
 split at h
 ·rename_i e he
  obtain⟨i,h1,h2,h3,h4⟩:=(hT.ty t e he).info
  obtain⟨v,h5,h6⟩:=h4 z h
  exact⟨i,v,h1,by rw[h2]; simp[Tab.size,he],by rw[h3]; simp[Tab.bytes,he],h5,h6⟩
 ·cases h
theorem tab_size {t:TypeId} (h:T.size t≠0):∃i,P.info? t=some i∧i.size=T.size t∧i.bytes=T.bytes t:=by
 unfold Tab.size at h ⊢
 split at h
 ·rename_i e he
  obtain⟨i,h1,h2,h3,_⟩:=(hT.ty t e he).info
  exact⟨i,h1,by simp[he,h2],by simp[Tab.bytes,he,h3]⟩
 ·exact absurd rfl h
end
theorem scalar_one {h g w} {c:AVal} {u:Value} (r:Rep h g w c u) (hs:c.scalar=true):u.oneCell'=true:=by
 cases r<;>first|rfl|assumption|(simp[AVal.scalar] at hs)
theorem scalar_cells {h g w} {c:AVal} {u:Value} (r:Rep h g w c u) (hs:c.scalar=true):u.cells=#[u]:=by
 have:=scalar_one r hs
 cases u<;>first|rfl|(simp[Value.oneCell'] at this)
theorem cells_rep {h g w} {v:AVal} {x:Value} (r:Rep h g w v x) (hs:v.cells.all AVal.scalar=true) :
  x.cells.size=v.cells.length∧(∀(j:Nat) c u,v.cells[j]?=some c→x.cells[j]?=some u→c.scalar=true∧Rep h g w c u)∧∀u∈x.cells.toList,u.oneCell'=true:=by
 have main:x.cells.size=v.cells.length∧(∀(j:Nat) c u,v.cells[j]?=some c→x.cells[j]?=some u→c.scalar=true∧Rep h g w c u):=by
  have one:∀(v:AVal),Rep h g w v x→v.cells=[v]→v.scalar=true→x.cells.size=v.cells.length∧(∀(j:Nat) c u,v.cells[j]?=some c→x.cells[j]?=some u→c.scalar=true∧Rep h g w c u):=by
   intro v r hv hs
   rw[scalar_cells r hs,hv]
   refine⟨rfl,fun j c u hc hu=>?_⟩
   rcases j with _|j
   ·cases hc; cases hu; exact⟨hs,r⟩
   ·simp at hc
  cases r with
  |agg cs arr hl hr=>
   refine⟨hl.symm,fun j c u hc hu=>⟨?_,hr j c u hc hu⟩⟩
   exact List.all_eq_true.1 hs c (List.mem_of_getElem? hc)
  |any=>simp[AVal.cells,AVal.scalar] at hs
  |undef=>simp[AVal.cells,AVal.scalar] at hs
  |tup=>simp[AVal.cells,AVal.scalar] at hs
  |int k n=>exact one _ (.int k n) rfl rfl
  |bool b=>exact one _ (.bool b) rfl rfl
  |str s=>exact one _ (.str s) rfl rfl
  |nils=>exact one _ .nils rfl rfl
  |ro0 e p c a a'=>exact one _ (.ro0 e p c a a') rfl rfl
  |ro1 e xs b o c us a1 a2 a3 a4 a5 a6=>exact one _ (.ro1 e xs b o c us a1 a2 a3 a4 a5 a6) rfl rfl
  |rp cs b o us a1 a2 a3=>exact one _ (.rp cs b o us a1 a2 a3) rfl rfl
  |own i _ a1 a2 a3=>exact one _ (.own i _ a1 a2 a3) rfl rfl
  |op i off _ a1 a2 a3=>exact one _ (.op i off _ a1 a2 a3) rfl rfl
  |oe i ix off _ a1 a2 a3=>exact one _ (.oe i ix off _ a1 a2 a3) rfl rfl
  |fn f caps arr a1 a2=>exact one _ (.fn f caps arr a1 a2) rfl rfl
  |ifc t c y a=>exact one _ (.ifc t c y a) rfl rfl
  |nilif=>exact one _ .nilif rfl rfl
  |nilfn=>exact one _ .nilfn rfl rfl
  |nilmp=>exact one _ .nilmp rfl rfl
  |nilpt=>exact one _ .nilpt rfl rfl
  |yld i _ a1 a2 a3=>exact one _ (.yld i _ a1 a2 a3) rfl rfl
 refine⟨main.1,main.2,fun u hu=>?_⟩
 obtain⟨j,hj,rfl⟩:=List.mem_iff_getElem.1 hu
 have hj':j<x.cells.size:=by simpa using hj
 have hc:j<v.cells.length:=by rw[←main.1]; exact hj'
 have:=main.2 j _ (x.cells.toList[j]) (List.getElem?_eq_getElem hc) (by rw[Array.getElem?_eq_getElem hj']; simp)
 exact scalar_one this.2 this.1
def Gh.at (g:Gh) (i:Nat) (v:Value):Gh:=⟨fun j=>if j=i then v else g.ρ j,g.M⟩
theorem Gh.at_same (g:Gh) (i:Nat) (v:Value):(g.at i v).ρ i=v:=by simp[Gh.at]
theorem Gh.at_other (g:Gh) {i j:Nat} (v:Value) (h:j≠i):(g.at i v).ρ j=g.ρ j:=by simp[Gh.at,h]
theorem BlkOk.mono {K h g w h' g' w'} {i:Nat} {b:ABlk} (o:BlkOk h g w i b) (l:Le K h g w h' g' w') (hr:g'.ρ i=g.ρ i)
  (hk:∀n,b≠.dead→blockOf (g.ρ i)=some n→w'.heap[n]?=w.heap[n]?):BlkOk h' g' w' i b:=by
 cases b with
 |dead=>trivial
 |free=>trivial
 |box wr cs=>
  obtain⟨n,arr,t,h1,h2,h3,h4⟩:=o
  exact⟨n,arr,t,by rw[hr]; exact h1,by rw[hk n (by simp) (by rw[h1]; rfl)]; exact h2,h3,fun j c x a b=>⟨(h4 j c x a b).1,(h4 j c x a b).2.mono l⟩⟩
 |row wr t e xs=>
  have o':RowOk h g w (g.ρ i) t e xs:=o
  show RowOk h' g' w' (g'.ρ i) t e xs
  rw[hr]
  rcases rowOk_cases o' with h0|⟨ks,us,rfl⟩
  ·obtain⟨vs,h1,h2⟩:=(rowOk_iff h0).1 o'
   refine (rowOk_iff h0).2 ⟨vs,?_,fun n x j c a b=>let ⟨u,h3,h4⟩:=h2 n x j c a b; ⟨u,h3,h4.mono l⟩⟩
   refine⟨h1.1,?_⟩
   rcases h1.2 with h5|⟨n,cap,cur,h5,h6,h7,h8⟩
   ·exact .inl h5
   ·exact .inr ⟨n,cap,cur,h5,h6,by rw[hk n (by simp) (by rw[h5]; rfl)]; exact h7,h8⟩
  ·obtain⟨r,es,ck,h1,h2,h3,h5,h4⟩:=o'
   exact⟨r,es,ck,h1,by rw[hk r (by simp) (by rw[h1]; rfl)]; exact h2,h3,h5,fun n x en a b=>⟨(h4 n x en a b).1.mono l,(h4 n x en a b).2.mono l⟩⟩
 |lp st pend ts ps aw bo=>
  obtain⟨n,arr,fn,D,h1,h2,h3,h4,hF⟩:=o
  exact⟨n,arr,fn,D,by rw[hr]; exact h1,by rw[hk n (by simp) (by rw[h1]; rfl)]; exact h2,h3,fun j c x a b=>(h4 j c x a b).mono l,hF⟩
theorem St.grow {K h g w w'} (s:St K h g w) (nb:ABlk) (v:Value) (l:Le K h g w (h++[nb]) (g.at h.length v) w')
  (hk:∀i n,alive h i→blockOf (g.ρ i)=some n→w'.heap[n]?=w.heap[n]?)
  (hn:BlkOk (h++[nb]) (g.at h.length v) w' h.length nb)
  (hv:∀n,blockOf v=some n→(¬K n∧¬g.M n∧n<w'.heap.size)∧∀i,alive h i→blockOf (g.ρ i)≠some n):St K (h++[nb]) (g.at h.length v) w' where
 blk:=fun i b hb=>by
  rcases Nat.lt_or_ge i h.length with hi|hi
  ·rw[List.getElem?_append_left hi] at hb
   exact (s.blk i b hb).mono l (g.at_other v (by omega)) fun n hd hn=>hk i n ⟨b,hb,hd⟩ hn
  ·rw[List.getElem?_append_right hi] at hb
   have:i=h.length:=by
    have:=(List.getElem?_eq_some_iff.1 hb).1
    simp at this; omega
   subst this
   simp at hb; subst hb
   exact hn
 inj:=fun i j n ai aj hi hj=>by
  have low:∀i,alive (h++[nb]) i→i≠h.length→alive h i:=fun i ⟨b,hb,hd⟩ hne=>by
   have:i<h.length:=by have:=(List.getElem?_eq_some_iff.1 hb).1; simp at this; omega
   rw[List.getElem?_append_left this] at hb
   exact⟨b,hb,hd⟩
  by_cases ei:i=h.length
  ·by_cases ej:j=h.length
   ·omega
   ·subst ei
    rw[g.at_same] at hi
    rw[g.at_other v ej] at hj
    exact absurd hj ((hv n hi).2 j (low j aj ej))
  ·by_cases ej:j=h.length
   ·subst ej
    rw[g.at_same] at hj
    rw[g.at_other v ei] at hi
    exact absurd hi ((hv n hj).2 i (low i ai ei))
   ·rw[g.at_other v ei] at hi
    rw[g.at_other v ej] at hj
    exact s.inj i j n (low i ai ei) (low j aj ej) hi hj
 sep:=fun i n ai hi=>by
  by_cases ei:i=h.length
  ·subst ei
   rw[g.at_same] at hi
   exact (hv n hi).1
  ·rw[g.at_other v ei] at hi
   have:alive h i:=by
    obtain⟨b,hb,hd⟩:=ai
    have:i<h.length:=by have:=(List.getElem?_eq_some_iff.1 hb).1; simp at this; omega
    rw[List.getElem?_append_left this] at hb
    exact⟨b,hb,hd⟩
   obtain⟨h1,h2,h3⟩:=s.sep i n this hi
   exact⟨h1,h2,Nat.lt_of_lt_of_le h3 l.size⟩
 low:=fun b hb=>Nat.lt_of_lt_of_le (s.low b hb) l.size
 klow:=fun b hb=>Nat.lt_of_lt_of_le (s.klow b hb) l.size
theorem le_grow {K h g w w'} (s:St K h g w) (nb:ABlk) (v:Value) (hb:Below w.heap.size w w'):Le K h g w (h++[nb]) (g.at h.length v) w' where
 len:=by simp
 here:=fun i ⟨b,hb,hn⟩=>⟨b,by rw[List.getElem?_append_left (List.getElem?_eq_some_iff.1 hb).1]; exact hb,hn⟩
 m:=fun _ h=>h
 new:=fun _ h=>.inl h
 mw:=fun b hb'=>hb.block b (s.low b hb')
 k:=fun b hb'=>hb.block b (s.klow b hb')
 box:=fun i wr cs' hi h'=>by
  rw[List.getElem?_append_left hi.lt] at h'
  replace hi:=hi.lt
  exact⟨wr,cs',h',rfl,g.at_other v (by omega)⟩
 row:=fun i wr t e xs' hi h'=>by
  rw[List.getElem?_append_left hi.lt] at h'
  replace hi:=hi.lt
  exact⟨wr,xs',h',fun _=>rfl,g.at_other v (by omega)⟩
 lp:=fun i st pend ts ps aw bo hi h'=>by
  rw[List.getElem?_append_left hi.lt] at h'
  replace hi:=hi.lt
  exact⟨st,pend,h',g.at_other v (by omega)⟩
 lockb:=fun i cs h'=>by rw[List.getElem?_append_left (List.getElem?_eq_some_iff.1 h').1]; exact h'
 lockr:=fun i t e xs h'=>by rw[List.getElem?_append_left (List.getElem?_eq_some_iff.1 h').1]; exact h'
 os:=hb.os
 tape:=hb.tape
 output:=hb.output
 size:=hb.size
theorem new_box {K h g w} (s:St K h g w) (cs:List AVal) (arr:Array Value) (t:TypeId) (hl:arr.size=cs.length)
  (hr:∀(j:Nat) c x,cs[j]?=some c→arr[j]?=some x→c.scalar=true∧Rep h g w c x) :
  Le K h g w (h++[.box true cs]) (g.at h.length (.pointer (some ⟨w.heap.size,0,none⟩))) (w.alloc (.cells arr t)) ∧
  St K (h++[.box true cs]) (g.at h.length (.pointer (some ⟨w.heap.size,0,none⟩))) (w.alloc (.cells arr t)) ∧
  Rep (h++[.box true cs]) (g.at h.length (.pointer (some ⟨w.heap.size,0,none⟩))) (w.alloc (.cells arr t)) (.op h.length 0) (.pointer (some ⟨w.heap.size,0,none⟩)):=by
 have hb:Below w.heap.size w (w.alloc (.cells arr t)):=(Below.refl _ _).alloc (Nat.le_refl _) _
 have l:Le K h g w (h++[.box true cs]) (g.at h.length (.pointer (some ⟨w.heap.size,0,none⟩))) (w.alloc (.cells arr t)):=le_grow s _ _ hb
 refine⟨l,?_,?_⟩
 ·refine s.grow _ _ l (fun i n ai hn=>Below.heap_alloc w _ n (s.sep i n ai hn).2.2) ?_ ?_
  ·refine⟨w.heap.size,arr,t,g.at_same _ _,heap_alloc_new w _,hl,fun j c x a b=>⟨(hr j c x a b).1,(hr j c x a b).2.mono l⟩⟩
  ·intro n hn
   simp only[blockOf,Option.some.injEq] at hn
   subst hn
   exact⟨⟨fun hk=>Nat.lt_irrefl _ (s.klow _ hk),fun hm=>Nat.lt_irrefl _ (s.low _ hm),by simp⟩,fun i ai hi=>Nat.lt_irrefl _ (s.sep i _ ai hi).2.2⟩
 ·refine .op _ _ _ (.of (b:=.box true cs) (by simp) (by simp)) rfl fun wr cs' hx=>⟨w.heap.size,g.at_same _ _,rfl⟩
mutual
theorem Sh.cells_pure:(s:Sh)→(x:s.ty)→∀c∈s.cells x,c.pure0=true
 |.int _,_=>by intro c hc; simp only[Sh.cells,List.mem_singleton] at hc; subst hc; rfl
 |.bool,_=>by intro c hc; simp only[Sh.cells,List.mem_singleton] at hc; subst hc; rfl
 |.str,_=>by intro c hc; simp only[Sh.cells,List.mem_singleton] at hc; subst hc; rfl
 |.recd fs,x=>by intro c hc; simp only[Sh.cells] at hc; exact Shs.cells_pure fs x c hc
 |.sl _,_=>by intro c hc; simp only[Sh.cells,List.mem_singleton] at hc; subst hc; rfl
 |.mp _ _,_=>by intro c hc; cases hc
theorem Shs.cells_pure:(fs:Shs)→(x:fs.ty)→∀c∈fs.cells x,c.pure0=true
 |.nil,_=>by intro c hc; simp[Shs.cells] at hc
 |.cons s r,x=>by
  intro c hc
  simp only[Shs.cells,List.mem_append] at hc
  rcases hc with hc|hc
  ·exact Sh.cells_pure s x.1 c hc
  ·exact Shs.cells_pure r x.2 c hc
end
mutual
theorem Sh.cells_size:(s:Sh)→(x:s.ty)→(s.cells x).length=s.size
 |.int _,_=>rfl
 |.bool,_=>rfl
 |.str,_=>rfl
 |.recd fs,x=>by simp only[Sh.cells,Sh.size]; exact Shs.cells_size fs x
 |.sl _,_=>rfl
 |.mp _ _,_=>rfl
theorem Shs.cells_size:(fs:Shs)→(x:fs.ty)→(fs.cells x).length=fs.size
 |.nil,_=>rfl
 |.cons s r,x=>by simp only[Shs.cells,Shs.size,List.length_append,Sh.cells_size s x.1,Shs.cells_size r x.2]
end
theorem rep_pure0 {h g w} {v:AVal} {x:Value} (r:Rep h g w v x) (hp:v.pure0=true) {h':List ABlk} {g':Gh} (hM:∀b,g.M b→g'.M b):Rep h' g' w v x:=by
 induction r with
 |int k n=>exact .int k n
 |bool b=>exact .bool b
 |str s=>exact .str s
 |nils=>exact .nils
 |nilif=>exact .nilif
 |nilfn=>exact .nilfn
 |nilmp=>exact .nilmp
 |nilpt=>exact .nilpt
 |ro0 e p c hc hc'=>exact .ro0 e p c hc hc'
 |ro1 e xs b o c us h0 h1 h2 hm hc _ ih=>
  exact .ro1 e xs b o c us h0 h1 h2 (hM b hm) hc fun n x j cc a a'=>ih n x j cc a a' (Sh.cells_pure e x cc (List.mem_of_getElem? a'))
 |fn f caps arr hl _ _=>
  cases caps with
  |nil=>exact .fn f [] arr hl fun j c x a _=>by simp at a
  |cons=>simp[AVal.pure0] at hp
 |_=>simp[AVal.pure0] at hp
theorem rep_val {h g w} {s:Sh} {y:s.ty} {x:Value} (r:Rep h g w (s.val y) x) {h':List ABlk} {g':Gh} (hM:∀b,g.M b→g'.M b):Rep h' g' w (s.val y) x:=by
 cases s with
 |recd fs=>
  have r':Rep h g w (.agg (fs.cells y)) x:=r
  show Rep h' g' w (.agg (fs.cells y)) x
  cases r' with
  |agg _ arr hl hr=>exact .agg _ arr hl fun j c z hc hz=>rep_pure0 (hr j c z hc hz) (Shs.cells_pure fs y c (List.mem_of_getElem? hc)) hM
 |mp k v=>exact .any _
 |int k=>exact rep_pure0 r rfl hM
 |bool=>exact rep_pure0 r rfl hM
 |str=>exact rep_pure0 r rfl hM
 |sl e=>exact rep_pure0 r rfl hM
theorem RowOk.same {h g w} {v:Value} {t:TypeId} {e:Sh} {xs:List e.ty} (o:RowOk h g w v t e xs) {h':List ABlk} {g':Gh} (hM:∀b,g.M b→g'.M b):RowOk h' g' w v t e xs:=by
 rcases rowOk_cases o with h0|⟨ks,us,rfl⟩
 ·obtain⟨vs,h1,h2⟩:=(rowOk_iff h0).1 o
  refine (rowOk_iff h0).2 ⟨vs,h1,fun n x j c hn hc=>?_⟩
  obtain⟨u,f1,f2⟩:=h2 n x j c hn hc
  exact⟨u,f1,rep_pure0 f2 (Sh.cells_pure e x c (List.mem_of_getElem? hc)) hM⟩
 ·obtain⟨r,es,ck,h1,h2,h3,h5,h4⟩:=o
  exact⟨r,es,ck,h1,h2,h3,h5,fun n x en a b=>⟨rep_val (h4 n x en a b).1 hM,rep_val (h4 n x en a b).2 hM⟩⟩
theorem alive_set {h:List ABlk} {i j:Nat} {nb:ABlk} (ha:alive h i) (a:alive (h.set i nb) j):alive h j:=by
 obtain⟨b,hb,hd⟩:=a
 rw[List.getElem?_set] at hb
 by_cases e:i=j
 ·subst e; exact ha
 ·rw[if_neg e] at hb; exact⟨b,hb,hd⟩
theorem St.turn {K h g w w'} (s:St K h g w) (i:Nat) (nb:ABlk) (l:Le K h g w (h.set i nb) g w') (ha:alive h i)
  (hk:∀j n,j≠i→alive h j→blockOf (g.ρ j)=some n→w'.heap[n]?=w.heap[n]?) (hn:BlkOk (h.set i nb) g w' i nb):St K (h.set i nb) g w' where
 blk:=fun j b hb=>by
  rw[List.getElem?_set] at hb
  by_cases e:i=j
  ·subst e
   rw[if_pos rfl] at hb
   split at hb
   ·cases hb; exact hn
   ·cases hb
  ·rw[if_neg e] at hb
   exact (s.blk j b hb).mono l rfl fun n hd hn=>hk j n (fun e'=>e e'.symm) ⟨b,hb,hd⟩ hn
 inj:=fun a b n ha' hb'=>s.inj a b n (alive_set ha ha') (alive_set ha hb')
 sep:=fun a n ha' hn'=>by
  obtain⟨h1,h2,h3⟩:=s.sep a n (alive_set ha ha') hn'
  exact⟨h1,h2,Nat.lt_of_lt_of_le h3 l.size⟩
 low:=fun b hb=>Nat.lt_of_lt_of_le (s.low b hb) l.size
 klow:=fun b hb=>Nat.lt_of_lt_of_le (s.klow b hb) l.size
theorem set_get {h:List ABlk} {i j:Nat} {nb b:ABlk} (hb:(h.set i nb)[j]?=some b):(j=i∧b=nb∧i<h.length)∨(j≠i∧h[j]?=some b):=by
 rw[List.getElem?_set] at hb
 by_cases e:i=j
 ·subst e
  rw[if_pos rfl] at hb
  split at hb
  ·cases hb; exact .inl ⟨rfl,rfl,by assumption⟩
  ·cases hb
 ·rw[if_neg e] at hb; exact .inr ⟨fun e'=>e e'.symm,hb⟩
theorem here_set {h:List ABlk} {i:Nat} {ob nb:ABlk} (_hi:h[i]?=some ob) (hn:nb≠.free) (j:Nat) (a:Here h j):Here (h.set i nb) j:=by
 obtain⟨b,hb,hb'⟩:=a
 by_cases e:i=j
 ·subst e
  exact⟨nb,by rw[List.getElem?_set,if_pos rfl,if_pos (List.getElem?_eq_some_iff.1 hb).1],hn⟩
 ·exact⟨b,by rw[List.getElem?_set,if_neg e]; exact hb,hb'⟩
theorem le_setRow {K h g w} (s:St K h g w) {i b:Nat} {ob nb:ABlk} (hi:h[i]?=some ob) (hd:ob≠.dead) (hρ:blockOf (g.ρ i)=some b) (arr:Array Value)
  (hbox:∀wr cs',nb=.box wr cs'→∃cs,ob=.box wr cs∧cs'.length=cs.length) (hrow:∀wr t e xs',nb=.row wr t e xs'→∃xs,ob=.row wr t e xs∧(0<e.size→xs'.length=xs.length))
  (hnf:nb≠.free) (hlp:∀st pend ts ps aw bo,nb≠.lp st pend ts ps aw bo) (hlb:∀cs,ob≠.box false cs) (hlr:∀t e xs,ob≠.row false t e xs) :
  Le K h g w (h.set i nb) g (w.setRow b arr) where
 len:=by simp
 here:=fun j ⟨b0,hb,hn⟩=>here_set hi hnf j ⟨b0,hb,hn⟩
 m:=fun _ h=>h
 new:=fun _ h=>.inl h
 mw:=fun n hn=>setRow_other w b n arr fun e=>by subst e; exact (s.sep i n ⟨ob,hi,hd⟩ hρ).2.1 hn
 k:=fun n hn=>setRow_other w b n arr fun e=>by subst e; exact (s.sep i n ⟨ob,hi,hd⟩ hρ).1 hn
 box:=fun j wr cs' _ h'=>by
  rcases set_get h' with ⟨rfl,e,_⟩|⟨_,e⟩
  ·obtain⟨cs,h1,h2⟩:=hbox wr cs' e.symm
   exact⟨wr,cs,by rw[hi,h1],h2,rfl⟩
  ·exact⟨wr,cs',e,rfl,rfl⟩
 row:=fun j wr t e xs' _ h'=>by
  rcases set_get h' with ⟨rfl,e,_⟩|⟨_,e⟩
  ·obtain⟨xs,h1,h2⟩:=hrow wr t _ xs' e.symm
   exact⟨wr,xs,by rw[hi,h1],h2,rfl⟩
  ·exact⟨wr,xs',e,fun _=>rfl,rfl⟩
 lp:=fun j st pend ts ps aw bo _ h'=>by
  rcases set_get h' with ⟨rfl,e,_⟩|⟨_,e⟩
  ·exact absurd e.symm (hlp st pend ts ps aw bo)
  ·exact⟨st,pend,e,rfl⟩
 lockb:=fun j cs h'=>by
  have:i≠j:=fun e=>by subst e; rw[hi] at h'; cases h'; exact hlb cs rfl
  rw[List.getElem?_set,if_neg this]; exact h'
 lockr:=fun j t e xs h'=>by
  have:i≠j:=fun e=>by subst e; rw[hi] at h'; cases h'; exact hlr _ _ _ rfl
  rw[List.getElem?_set,if_neg this]; exact h'
 os:=rfl
 tape:=rfl
 output:=rfl
 size:=by simp
theorem setRow_keeps {K h g w} (s:St K h g w) {i b:Nat} (ha:alive h i) (hρ:blockOf (g.ρ i)=some b) (arr:Array Value) :
  ∀j n,j≠i→alive h j→blockOf (g.ρ j)=some n→(w.setRow b arr).heap[n]?=w.heap[n]?:=fun j n hj hja hn=>
 setRow_other w b n arr fun e=>by subst e; exact hj (s.inj j i n hja ha hn hρ)
theorem overAt_nil {α:Type} (l:List α) (n:Nat):List.overAt l n []=l:=by cases l<;>rfl
theorem overAt_length {α:Type}:∀(l:List α) (n:Nat) (vs:List α),(List.overAt l n vs).length=l.length
 |l,_,[]=>by cases l<;>rfl
 | [],_,_::_=>rfl
 |_::l,0,v::vs=>by simp[List.overAt,overAt_length l 0 vs]
 |_::l,n+1,v::vs=>by simp[List.overAt,overAt_length l n (v::vs)]
theorem overAt_eq {α:Type}:∀(l:List α) (n:Nat) (vs:List α),n+vs.length≤l.length→List.overAt l n vs=l.take n++vs++l.drop (n+vs.length)
 |l,n,[],_=>by cases l<;>simp[List.overAt]
 | [],n,v::vs,h=>by simp at h
 |x::l,0,v::vs,h=>by
  have:=overAt_eq l 0 vs (by simp at h ⊢; omega)
  simp at this
  simp[List.overAt,this]
 |x::l,n+1,v::vs,h=>by
  have:=overAt_eq l n (v::vs) (by simp at h ⊢; omega)
  simp only[List.overAt,this,List.take_succ_cons,List.cons_append,List.drop_succ_cons]
  congr 2
  rw[show n+1+(v::vs).length=(n+(v::vs).length)+1 by omega,List.drop_succ_cons]
theorem overAt_get {α:Type} (l:List α) (n:Nat) (vs:List α) (h:n+vs.length≤l.length) (j:Nat):(List.overAt l n vs)[j]?=if n≤j∧j<n+vs.length then vs[j-n]? else l[j]?:=by
 rw[overAt_eq l n vs h]
 by_cases h1:n≤j∧j<n+vs.length
 ·rw[if_pos h1,List.append_assoc,List.getElem?_append_right (by simp; omega),List.getElem?_append_left (by simp; omega)]
  congr 1; simp; omega
 ·rw[if_neg h1]
  rcases Nat.lt_or_ge j n with h2|h2
  ·rw[List.append_assoc,List.getElem?_append_left (by simp; omega),List.getElem?_take,if_pos h2]
  ·rw[List.getElem?_append_right (by simp; omega),List.getElem?_drop]
   congr 1; simp; omega
theorem store_box {K h g w} (s:St K h g w) {i off:Nat} {cs vs:List AVal} {xs:List Value} (hi:h[i]?=some (.box true cs)) (hl:xs.length=vs.length) (ho:off+vs.length≤cs.length)
  (hr:∀(j:Nat) c x,vs[j]?=some c→xs[j]?=some x→c.scalar=true∧Rep h g w c x) :
  ∃b arr t,g.ρ i=.pointer (some ⟨b,0,none⟩)∧w.heap[b]?=some (.cells arr t (0,0))∧arr.size=cs.length ∧
   Le K h g w (h.set i (.box true (List.overAt cs off vs))) g (w.setRow b (arr.toList.take off++xs++arr.toList.drop (off+xs.length)).toArray) ∧
   St K (h.set i (.box true (List.overAt cs off vs))) g (w.setRow b (arr.toList.take off++xs++arr.toList.drop (off+xs.length)).toArray):=by
 obtain⟨b,arr,t,h1,h2,h3,h4⟩:=s.blk i _ hi
 refine⟨b,arr,t,h1,h2,h3,?_⟩
 have hρ:blockOf (g.ρ i)=some b:=by rw[h1]; rfl
 have ha:alive h i:=⟨_,hi,by simp⟩
 have l:Le K h g w (h.set i (.box true (List.overAt cs off vs))) g (w.setRow b (arr.toList.take off++xs++arr.toList.drop (off+xs.length)).toArray):=
  le_setRow s hi (by simp) hρ _ (fun wr cs' e=>by cases e; exact⟨cs,rfl,overAt_length _ _ _⟩) (fun wr t e xs' e'=>by cases e') (by simp) (fun _ _ _ _ _ _ e=>by cases e) (fun cs e=>by cases e) (fun t e xs e'=>by cases e')
 refine⟨l,s.turn i _ l ha (setRow_keeps s ha hρ _) ⟨b,_,t,h1,setRow_heap w b arr _ t _ h2,?_,fun j c x hc hx=>?_⟩⟩
 ·rw[overAt_length]; simp; omega
 ·rw[overAt_get _ _ _ ho] at hc
  have hx':(List.overAt arr.toList off xs)[j]?=some x:=by
   rw[overAt_eq _ _ _ (by simp; omega)]; simpa using hx
  rw[overAt_get _ _ _ (by simp; omega),hl] at hx'
  by_cases e:off≤j∧j<off+vs.length
  ·rw[if_pos e] at hc hx'
   obtain⟨a1,a2⟩:=hr _ _ _ hc hx'
   exact⟨a1,a2.mono l⟩
  ·rw[if_neg e] at hc hx'
   obtain⟨a1,a2⟩:=h4 j c x hc (by simpa using hx')
   exact⟨a1,a2.mono l⟩
def Gh.plus (g:Gh) (is:List Nat):Gh:=⟨g.ρ,fun b=>g.M b∨∃i∈is,blockOf (g.ρ i)=some b⟩
theorem row_ro {h g w} {i:Nat} {wr:Bool} {t:TypeId} {e:Sh} {xs:List e.ty} (o:BlkOk h g w i (.row wr t e xs)) (h0:0<e.size) {h':List ABlk} {g':Gh} (hM:∀b,g.M b→g'.M b) (hb:∀b,blockOf (g.ρ i)=some b→g'.M b) :
  Rep h' g' w (.ro e xs) (g.ρ i):=by
 obtain⟨vs,h1,h2⟩:=(rowOk_iff h0).1 o
 rcases h1.2 with ⟨h3,h4⟩|⟨n,cap,cur,h3,h5,h6,h7,h8,h9,h10⟩
 ·rw[h3]
  have:xs=[]:=List.eq_nil_of_length_eq_zero h4
  subst this
  exact .ro0 e none 0 (Nat.zero_le _) fun _=>rfl
 ·have hc:=h1.cells (g:=n) (by rw[h3]; rfl)
  rw[h3] at hb ⊢
  rcases Nat.eq_zero_or_pos xs.length with hz|hz
  ·have:xs=[]:=List.eq_nil_of_length_eq_zero hz
   subst this
   exact .ro0 e _ cap h8 fun e=>by cases e
  ·refine .ro1 e xs n 0 cap (fun a j=>(vs[a*e.size+j]?).getD Go.undef) hz h7 h8 (hb n rfl) (fun a x j cc hx hcc=>?_) (fun a x j cc hx hcc=>?_)
   ·obtain⟨u,hu,_⟩:=h2 a x j cc hx hcc
    have:=hc _ u hu
    rw[Addr.add_lit,Nat.zero_add] at this
    rw[Nat.zero_add,this,hu]; rfl
   ·obtain⟨u,hu,hr⟩:=h2 a x j cc hx hcc
    rw[hu]
    exact rep_pure0 hr (Sh.cells_pure e x cc (List.mem_of_getElem? hcc)) hM
theorem peek0_rep {K h g w} (s:St K h g w) {v u:AVal} {x:Value} (r:Rep h g w v x) (hp:peek0 h v=some u) {h':List ABlk} {g':Gh} (hM:∀b,g.M b→g'.M b)
  (hb:∀i∈v.named0,∀b,blockOf (g.ρ i)=some b→g'.M b):Rep h' g' w u x∧u.pure0=true:=by
 unfold peek0 at hp
 split at hp
 ·rename_i i
  split at hp
  ·rename_i wr t e xs hh
   split at hp
   ·rename_i h0
    cases hp
    have hi:h[i]?=some (.row wr t e xs):=by
     rw[List.getD_eq_getElem?_getD] at hh
     cases hx:h[i]? with
     |none=>rw[hx] at hh; cases hh
     |some b=>rw[hx] at hh; simp at hh; rw[hh]
    cases r with
    |own _ _ h1 h2 h3=>
     rw[h3 wr t e xs hi]
     exact⟨row_ro (s.blk i _ hi) h0 hM (hb i (by simp[AVal.named0])),rfl⟩
   ·cases hp
  ·cases hp
 all_goals first
  |(cases hp; exact⟨rep_pure0 r rfl hM,rfl⟩)
  |cases hp
theorem peekL_get {f:AVal→Option AVal}:∀ {vs us:List AVal},peekL f vs=some us→vs.length=us.length∧∀(j:Nat) v u,vs[j]?=some v→us[j]?=some u→f v=some u
 | [],us,h=>by simp only[peekL] at h; cases h; simp
 |v::r,us,h=>by
  simp only[peekL] at h
  split at h
  ·cases h
  ·rename_i u hu
   split at h
   ·cases h
   ·rename_i us' hus
    cases h
    obtain⟨h1,h2⟩:=peekL_get hus
    refine⟨by simp[h1],fun j a b ha hb=>?_⟩
    rcases j with _|j
    ·simp at ha hb; subst ha; subst hb; exact hu
    ·exact h2 j a b (by simpa using ha) (by simpa using hb)
theorem peekC_rep {K h g w} (s:St K h g w) {v u:AVal} {x:Value} (r:Rep h g w v x) (hp:peekC h v=some u) {h':List ABlk} {g':Gh} (hM:∀b,g.M b→g'.M b)
  (hb:∀i∈v.named0,∀b,blockOf (g.ρ i)=some b→g'.M b):Rep h' g' w u x:=by
 unfold peekC at hp
 split at hp
 ·rename_i cs
  split at hp
  ·rename_i hc
   cases hp
   cases r with
   |rp _ b o us h1 h2 h3=>exact .rp cs b o us (hM _ h1) h2 fun j c hj=>rep_pure0 (h3 j c hj) (List.all_eq_true.1 hc c (List.mem_of_getElem? hj)) hM
  ·cases hp
 ·exact (peek0_rep s r hp hM hb).1
theorem peek1_rep {K h g w} (s:St K h g w) {v u:AVal} {x:Value} (r:Rep h g w v x) (hp:peek1 h v=some u) {h':List ABlk} {g':Gh} (hM:∀b,g.M b→g'.M b)
  (hb:∀i∈v.named1,∀b,blockOf (g.ρ i)=some b→g'.M b):Rep h' g' w u x:=by
 have inner:∀(cs us:List AVal) (arr:Array Value),peekL (peek0 h) cs=some us→cs.length=arr.size→(∀(j:Nat) c x,cs[j]?=some c→arr[j]?=some x→Rep h g w c x)→(∀c∈cs,∀i∈c.named0,∀b,blockOf (g.ρ i)=some b→g'.M b) →
   us.length=arr.size∧∀(j:Nat) c x,us[j]?=some c→arr[j]?=some x→Rep h' g' w c x:=by
  intro cs us arr hp hl hr hn
  obtain⟨h1,h2⟩:=peekL_get hp
  refine⟨by omega,fun j c x hc hx=>?_⟩
  have hj:j<cs.length:=by have:=(List.getElem?_eq_some_iff.1 hc).1; omega
  have hcs:=List.getElem?_eq_getElem hj
  exact (peek0_rep s (hr j _ x hcs hx) (h2 j _ c hcs hc) hM (hn _ (List.getElem_mem hj))).1
 have innerC:∀(cs us:List AVal) (arr:Array Value),peekL (peekC h) cs=some us→cs.length=arr.size→(∀(j:Nat) c x,cs[j]?=some c→arr[j]?=some x→Rep h g w c x)→(∀c∈cs,∀i∈c.named0,∀b,blockOf (g.ρ i)=some b→g'.M b) →
   us.length=arr.size∧∀(j:Nat) c x,us[j]?=some c→arr[j]?=some x→Rep h' g' w c x:=by
  intro cs us arr hp hl hr hn
  obtain⟨h1,h2⟩:=peekL_get hp
  refine⟨by omega,fun j c x hc hx=>?_⟩
  have hj:j<cs.length:=by have:=(List.getElem?_eq_some_iff.1 hc).1; omega
  have hcs:=List.getElem?_eq_getElem hj
  exact peekC_rep s (hr j _ x hcs hx) (h2 j _ c hcs hc) hM (hn _ (List.getElem_mem hj))
 have flat:∀cs:List AVal,(∀i∈cs.flatMap AVal.named0,∀b,blockOf (g.ρ i)=some b→g'.M b)→(∀c∈cs,∀i∈c.named0,∀b,blockOf (g.ρ i)=some b→g'.M b):=
  fun cs h c hc i hi=>h i (List.mem_flatMap.2 ⟨c,hc,hi⟩)
 unfold peek1 at hp
 split at hp
 ·rename_i cs
  split at hp
  ·rename_i us hus
   cases hp
   cases r with
   |agg _ arr hl hr=>
    obtain⟨a,b⟩:=inner cs us arr hus hl hr (flat cs hb)
    exact .agg us arr a b
  ·cases hp
 ·rename_i f cs
  split at hp
  ·rename_i us hus
   cases hp
   cases r with
   |fn _ _ arr hl hr=>
    obtain⟨a,b⟩:=innerC cs us arr hus hl hr (flat cs hb)
    exact .fn f us arr a b
  ·cases hp
 ·rename_i v h1 h2
  refine (peek0_rep s r hp hM fun i hi=>hb i ?_).1
  unfold AVal.named1
  split
  ·exact absurd rfl (h1 _)
  ·exact absurd rfl (h2 _ _)
  ·exact hi
theorem peekP_rep {K h g w} (s:St K h g w) {v u:AVal} {x:Value} (r:Rep h g w v x) (hp:peekP h v=some u) {h':List ABlk} {g':Gh} (hM:∀b,g.M b→g'.M b)
  (hb:∀i∈v.namedP,∀b,blockOf (g.ρ i)=some b→g'.M b):Rep h' g' w u x:=by
 unfold peekP at hp
 split at hp
 ·rename_i i off
  split at hp
  ·rename_i wr cs hh
   split at hp
   ·rename_i hc
    cases hp
    have hi:h[i]?=some (.box wr cs):=by
     rw[List.getD_eq_getElem?_getD] at hh
     cases hx:h[i]? with
     |none=>rw[hx] at hh; cases hh
     |some b=>rw[hx] at hh; simp at hh; rw[hh]
    cases r with
    |op _ _ _ h1 h2 h3=>
     obtain⟨b,hρ,rfl⟩:=h3 wr cs hi
     obtain⟨b',arr,t,hρ',hw,hsz,hcell⟩:=s.blk i _ hi
     rw[hρ] at hρ'
     cases hρ'
     have key:∀(j:Nat) c,(cs.drop off)[j]?=some c→∃z,arr[off+j]?=some z∧c.pure0=true∧Rep h g w c z:=fun j c hc'=>by
      rw[List.getElem?_drop] at hc'
      have hlt:=(List.getElem?_eq_some_iff.1 hc').1
      have hz:=Array.getElem?_eq_getElem (xs:=arr) (i:=off+j) (by omega)
      exact⟨_,hz,List.all_eq_true.1 hc c (List.mem_of_getElem? hc'),(hcell _ c _ hc' hz).2⟩
     refine .rp _ b off (fun j=>(arr[off+j]?).getD Go.undef) (hb i (by simp[AVal.namedP]) b (by rw[hρ]; rfl)) (fun j c hc'=>?_) (fun j c hc'=>?_)
     ·obtain⟨z,hz,_⟩:=key j c hc'
      rw[hz]
      simp[World.cell?,hw,hz]
     ·obtain⟨z,hz,hq,hr⟩:=key j c hc'
      rw[hz]
      exact rep_pure0 hr hq hM
   ·cases hp
  ·cases hp
 ·rename_i v h1
  refine peek1_rep s r hp hM fun i hi=>hb i ?_
  unfold AVal.namedP
  split
  ·exact absurd rfl (h1 _ _)
  ·exact hi
theorem peek2_rep {K h g w} (s:St K h g w) {v u:AVal} {x:Value} (r:Rep h g w v x) (hp:peek2 h v=some u) {h':List ABlk} {g':Gh} (hM:∀b,g.M b→g'.M b)
  (hb:∀i∈v.named2,∀b,blockOf (g.ρ i)=some b→g'.M b):Rep h' g' w u x:=by
 unfold peek2 at hp
 split at hp
 ·rename_i vs
  split at hp
  ·rename_i us hus
   cases hp
   cases r with
   |tup _ arr hl hr=>
    obtain⟨h1,h2⟩:=peekL_get hus
    refine .tup us arr (by omega) fun j c x hc hx=>?_
    have hj:j<vs.length:=by have:=(List.getElem?_eq_some_iff.1 hc).1; omega
    have hcs:=List.getElem?_eq_getElem hj
    exact peek1_rep s (hr j _ x hcs hx) (h2 j _ c hcs hc) hM fun i hi=>hb i (List.mem_flatMap.2 ⟨_,List.getElem_mem hj,hi⟩)
  ·cases hp
 ·rename_i t v
  split at hp
  ·rename_i u hu
   cases hp
   cases r with
   |ifc _ _ y hr=>exact .ifc t u y (peek1_rep s hr hu hM hb)
  ·cases hp
 ·rename_i f cs
  split at hp
  ·rename_i us hus
   cases hp
   cases r with
   |fn _ _ arr hl hr=>
    obtain⟨h1,h2⟩:=peekL_get hus
    refine .fn f us arr (by omega) fun j c x hc hx=>?_
    have hj:j<cs.length:=by have:=(List.getElem?_eq_some_iff.1 hc).1; omega
    have hcs:=List.getElem?_eq_getElem hj
    exact peekP_rep s (hr j _ x hcs hx) (h2 j _ c hcs hc) hM fun i hi=>hb i (List.mem_flatMap.2 ⟨_,List.getElem_mem hj,hi⟩)
  ·cases hp
 ·rename_i v h1 h2 h3
  refine peek1_rep s r hp hM fun i hi=>hb i ?_
  unfold AVal.named2
  split
  ·exact absurd rfl (h1 _)
  ·exact absurd rfl (h2 _ _)
  ·exact absurd rfl (h3 _ _)
  ·exact hi
theorem getD_some {h:List ABlk} {i:Nat} {b:ABlk} (hd:b≠.dead) (e:h.getD i .dead=b):h[i]?=some b:=by
 rw[List.getD_eq_getElem?_getD] at e
 cases hx:h[i]? with
 |none=>rw[hx] at e; exact absurd e.symm hd
 |some c=>rw[hx] at e; simp at e; rw[e]
theorem kill_all {K w}:∀(is:List Nat) {h g h'},St K h g w→killAll h is=some h' →
  Le K h g w h' (g.plus is) w∧St K h' (g.plus is) w:=by
 intro is
 induction is with
 |nil=>
  intro h g h' s hk
  simp only[killAll] at hk
  cases hk
  have e:g.plus []=g:=by
   cases g; simp[Gh.plus]
  rw[e]; exact⟨.refl,s⟩
 |cons i r ih=>
  intro h g h' s hk
  have step:∀h1,(Le K h g w h1 (g.plus [i]) w∧St K h1 (g.plus [i]) w)→killAll h1 r=some h'→Le K h g w h' (g.plus (i::r)) w∧St K h' (g.plus (i::r)) w:=by
   intro h1 ⟨l,s1⟩ hk
   obtain⟨l2,s2⟩:=ih s1 hk
   have e:(g.plus [i]).plus r=g.plus (i::r):=by
    simp only[Gh.plus]
    congr 1
    funext b
    apply propext
    constructor
    ·rintro ((h|⟨j,hj,h⟩)|⟨j,hj,h⟩)
     ·exact .inl h
     ·exact .inr ⟨j,by simp only[List.mem_singleton] at hj; simp[hj],h⟩
     ·exact .inr ⟨j,List.mem_cons_of_mem _ hj,h⟩
    ·rintro (h|⟨j,hj,h⟩)
     ·exact .inl (.inl h)
     ·rcases List.mem_cons.1 hj with hj|hj
      ·exact .inl (.inr ⟨j,by simp[hj],h⟩)
      ·exact .inr ⟨j,hj,h⟩
   rw[e] at l2 s2
   exact⟨l.trans l2,s2⟩
  simp only[killAll] at hk
  split at hk
  ·rename_i t e xs hh
   have hi:=getD_some (by simp) hh
   refine step _ ⟨?_,?_⟩ hk
   ·exact {
     len:=by simp
     here:=here_set hi (by simp)
     m:=fun _ h=>.inl h
     new:=fun b hb=>by
      rcases hb with hb|⟨j,hj,hb⟩
      ·exact .inl hb
      ·simp only[List.mem_singleton] at hj; subst hj
       exact .inr (s.sep j b ⟨_,hi,by simp⟩ hb).1
     mw:=fun _ _=>rfl
     k:=fun _ _=>rfl
     box:=fun j wr cs' _ h'=>by
      rcases set_get h' with ⟨rfl,e,_⟩|⟨_,e⟩
      ·cases e
      ·exact⟨wr,cs',e,rfl,rfl⟩
     row:=fun j wr t e xs' _ h'=>by
      rcases set_get h' with ⟨rfl,e,_⟩|⟨_,e⟩
      ·cases e
      ·exact⟨wr,xs',e,fun _=>rfl,rfl⟩
     lp:=fun j st pend ts ps aw bo _ h'=>by
      rcases set_get h' with ⟨rfl,e,_⟩|⟨_,e⟩
      ·cases e
      ·exact⟨st,pend,e,rfl⟩
     lockb:=fun j cs h'=>by
      have:i≠j:=fun e=>by subst e; rw[hi] at h'; cases h'
      rw[List.getElem?_set,if_neg this]; exact h'
     lockr:=fun j t e xs h'=>by
      have:i≠j:=fun e=>by subst e; rw[hi] at h'; cases h'
      rw[List.getElem?_set,if_neg this]; exact h'
     os:=rfl
     tape:=rfl
     output:=rfl
     size:=Nat.le_refl _ }
   ·have al:∀j,alive (h.set i .dead) j→j≠i∧alive h j:=fun j ⟨b,hb,hd⟩=>by
     rcases set_get hb with ⟨_,e,_⟩|⟨hne,e⟩
     ·exact absurd e hd
     ·exact⟨hne,b,e,hd⟩
    have l0:Le K h g w (h.set i .dead) (g.plus [i]) w:={
     len:=by simp
     here:=here_set hi (by simp)
     m:=fun _ h=>.inl h
     new:=fun b hb=>by
      rcases hb with hb|⟨j,hj,hb⟩
      ·exact .inl hb
      ·simp only[List.mem_singleton] at hj; subst hj
       exact .inr (s.sep j b ⟨_,hi,by simp⟩ hb).1
     mw:=fun _ _=>rfl
     k:=fun _ _=>rfl
     box:=fun j wr cs' _ h'=>by
      rcases set_get h' with ⟨rfl,e,_⟩|⟨_,e⟩
      ·cases e
      ·exact⟨wr,cs',e,rfl,rfl⟩
     row:=fun j wr t e xs' _ h'=>by
      rcases set_get h' with ⟨rfl,e,_⟩|⟨_,e⟩
      ·cases e
      ·exact⟨wr,xs',e,fun _=>rfl,rfl⟩
     lp:=fun j st pend ts ps aw bo _ h'=>by
      rcases set_get h' with ⟨rfl,e,_⟩|⟨_,e⟩
      ·cases e
      ·exact⟨st,pend,e,rfl⟩
     lockb:=fun j cs h'=>by
      have:i≠j:=fun e=>by subst e; rw[hi] at h'; cases h'
      rw[List.getElem?_set,if_neg this]; exact h'
     lockr:=fun j t e xs h'=>by
      have:i≠j:=fun e=>by subst e; rw[hi] at h'; cases h'
      rw[List.getElem?_set,if_neg this]; exact h'
     os:=rfl
     tape:=rfl
     output:=rfl
     size:=Nat.le_refl _ }
    exact {
     blk:=fun j b hb=>by
      rcases set_get hb with ⟨_,e,_⟩|⟨_,e⟩
      ·subst e; trivial
      ·exact (s.blk j b e).mono l0 rfl fun _ _ _=>rfl
     inj:=fun a b n ha hb=>s.inj a b n (al a ha).2 (al b hb).2
     sep:=fun a n ha hn=>by
      obtain⟨h1,h2,h3⟩:=s.sep a n (al a ha).2 hn
      refine⟨h1,?_,h3⟩
      rintro (h4|⟨j,hj,h4⟩)
      ·exact h2 h4
      ·simp only[List.mem_singleton] at hj; subst hj
       exact (al a ha).1 (s.inj a j n (al a ha).2 ⟨_,hi,by simp⟩ hn h4)
     low:=fun b hb=>by
      rcases hb with hb|⟨j,hj,hb⟩
      ·exact s.low b hb
      ·simp only[List.mem_singleton] at hj; subst hj
       exact (s.sep j b ⟨_,hi,by simp⟩ hb).2.2
     klow:=s.klow }
  ·cases hk
theorem killAll_at:∀(is:List Nat) {h h':List ABlk},killAll h is=some h'→∀i,(h'[i]?=h[i]?∨(h'[i]?=some .dead∧i∈is))∧h'.length=h.length
 | [],h,h',hk,i=>by cases hk; exact⟨.inl rfl,rfl⟩
 |j::r,h,h',hk,i=>by
  simp only[killAll] at hk
  split at hk
  ·rename_i t e xs hh
   have hj:=getD_some (by simp) hh
   obtain⟨a,b⟩:=killAll_at r hk i
   refine⟨?_,by rw[b,List.length_set]⟩
   rcases a with a|⟨a,a'⟩
   ·rw[a,List.getElem?_set]
    by_cases e:j=i
    ·subst e
     rw[if_pos rfl,if_pos (List.getElem?_eq_some_iff.1 hj).1]
     exact .inr ⟨rfl,by simp⟩
    ·rw[if_neg e]; exact .inl rfl
   ·exact .inr ⟨a,List.mem_cons_of_mem _ a'⟩
  ·cases hk
theorem kill_z {K w} {fz:Bool} {is:List Nat} {h g h'} (s:St K h g w) (hk:killZ fz h is=some h'):Le K h g w h' (g.plus is) w∧St K h' (g.plus is) w:=by
 cases fz with
 |false=>exact kill_all is s hk
 |true=>
  simp only[killZ,cond_true] at hk
  split at hk
  case h_2=>cases hk
  rename_i h1 hk1
  cases hk
  obtain⟨l1,s1⟩:=kill_all is s hk1
  have at':∀i,(frzH h h1)[i]?=(h1[i]?).map (frzB h h1):=fun i=>by unfold frzH; rw[List.getElem?_map]
  have inv:∀ {i:Nat} {b:ABlk},(frzH h h1)[i]?=some b→∃b1,h1[i]?=some b1∧b=frzB h h1 b1:=fun {i b} hb=>by
   rw[at'] at hb
   cases hx:h1[i]? with
   |none=>rw[hx] at hb; cases hb
   |some b1=>rw[hx] at hb; cases hb; exact⟨b1,rfl,rfl⟩
  have notB:∀b1:ABlk,(∀cs,b1≠.box true cs)→frzB h h1 b1=b1:=fun b1 hn=>by
   cases b1 with
   |box wr cs=>cases wr
               ·rfl
               ·exact absurd rfl (hn cs)
   |_=>rfl
  have l2:Le K h1 (g.plus is) w (frzH h h1) (g.plus is) w:={
   len:=by simp[frzH]
   here:=fun i ⟨b,hb,hn⟩=>⟨frzB h h1 b,by rw[at',hb]; rfl,fun e=>by
    cases b with
    |box wr cs=>cases wr<;>cases e
    |free=>exact hn rfl
    |_=>cases e⟩
   m:=fun _ h=>h
   new:=fun _ h=>.inl h
   mw:=fun _ _=>rfl
   k:=fun _ _=>rfl
   box:=fun i wr cs' _ hb=>by
    obtain⟨b1,e1,e2⟩:=inv hb
    cases b1 with
    |box wr1 cs=>
     cases wr1 with
     |false=>cases e2; exact⟨false,cs',e1,rfl,rfl⟩
     |true=>cases e2; exact⟨true,cs,e1,by simp,rfl⟩
    |_=>cases e2
   row:=fun i wr t e xs' _ hb=>by
    obtain⟨b1,e1,e2⟩:=inv hb
    cases b1 with
    |row wr1 t1 e' xs=>cases e2; exact⟨_,_,e1,fun _=>rfl,rfl⟩
    |box wr1 cs=>cases wr1<;>cases e2
    |_=>cases e2
   lp:=fun i st pend ts ps aw bo _ hb=>by
    obtain⟨b1,e1,e2⟩:=inv hb
    cases b1 with
    |lp st1 pend1 ts1 ps1 aw1 bo1=>cases e2; exact⟨_,_,e1,rfl⟩
    |box wr1 cs=>cases wr1<;>cases e2
    |_=>cases e2
   lockb:=fun i cs hb=>by rw[at',hb]; rfl
   lockr:=fun i t e xs hb=>by rw[at',hb]; rfl
   os:=rfl
   tape:=rfl
   output:=rfl
   size:=Nat.le_refl _ }
  have al:∀ {i:Nat},alive (frzH h h1) i→alive h1 i:=fun {i} ⟨b,hb,hd⟩=>by
   obtain⟨b1,e1,e2⟩:=inv hb
   exact⟨b1,e1,fun e=>by subst e; subst e2; exact hd rfl⟩
  refine⟨l1.trans l2,?_⟩
  exact {
   blk:=fun i b hb=>by
    obtain⟨b1,e1,e2⟩:=inv hb
    have o1:=s1.blk i b1 e1
    by_cases hbx:∃cs,b1=.box true cs
    ·obtain⟨cs,rfl⟩:=hbx
     subst e2
     obtain⟨n,arr,t,q1,q2,q3,q4⟩:=o1
     have e0:h[i]?=some (.box true cs):=by
      rcases (killAll_at is hk1 i).1 with e|⟨e,_⟩
      ·rw[←e]; exact e1
      ·rw[e] at e1; cases e1
     obtain⟨n0,arr0,t0,p1,p2,p3,p4⟩:=s.blk i _ e0
     have hn:n0=n:=by
      have:g.ρ i=.pointer (some ⟨n,0,none⟩):=q1
      rw[this] at p1
      injection p1 with p1; injection p1 with p1; injection p1 with p1; exact p1.symm
     subst hn
     have ha:arr0=arr:=by rw[p2] at q2; injection q2 with q2; injection q2
     subst ha
     refine⟨n0,arr0,t,q1,q2,by simpa using q3,fun j c x hc hx=>?_⟩
     rw[List.getElem?_map] at hc
     cases hcj:cs[j]? with
     |none=>rw[hcj] at hc; cases hc
     |some c0=>
      rw[hcj] at hc
      simp only[Option.map_some,Option.some.injEq] at hc
      subst hc
      have r1:=q4 j c0 x hcj hx
      have keep:(frz0 h h1 c0).scalar=true∧Rep (frzH h h1) (g.plus is) w (frz0 h h1 c0) x∨∃i' e xs wr t,c0=.own i'∧h1.getD i' .dead=.dead∧h.getD i' .dead=.row wr t e xs∧frz0 h h1 c0=.ro e xs∧0<e.size:=by
       cases c0 with
       |own i'=>
        simp only[frz0]
        split
        ·rename_i wr t' e xs hd hr
         split
         ·rename_i h0
          exact .inr ⟨i',e,xs,wr,t',rfl,hd,hr,rfl,h0⟩
         ·exact .inl ⟨rfl,r1.2.mono l2⟩
        ·exact .inl ⟨rfl,r1.2.mono l2⟩
       |_=>exact .inl ⟨r1.1,r1.2.mono l2⟩
      rcases keep with keep|⟨i',e,xs,wr,t',rfl,hd,hr,hf,h0⟩
      ·exact keep
      ·rw[hf]
       refine⟨rfl,?_⟩
       have hri:=getD_some (by simp) hr
       have r0:=(p4 j _ x hcj hx).2
       cases r0 with
       |own _ _ _ _ hv=>
        have hx':=hv wr t' e xs hri
        subst hx'
        refine row_ro (s.blk i' _ hri) h0 (fun b h=>.inl h) fun b hb=>.inr ⟨i',?_,hb⟩
        rcases (killAll_at is hk1 i').1 with e|⟨_,e⟩
        ·rw[hri] at e
         rw[List.getD_eq_getElem?_getD,e] at hd
         cases hd
        ·exact e
    ·rw[notB b1 fun cs e=>hbx ⟨cs,e⟩] at e2
     subst e2
     exact o1.mono l2 rfl fun _ _ _=>rfl
   inj:=fun a b n ha hb=>s1.inj a b n (al ha) (al hb)
   sep:=fun a n ha hn=>s1.sep a n (al ha) hn
   low:=s1.low
   klow:=s1.klow }
theorem mem_dedup {x:Nat}:∀ {l:List Nat},x∈dedup l↔x∈l
 | []=>by simp[dedup]
 |y::r=>by
  simp only[dedup]
  split
  ·rename_i h
   rw[mem_dedup,List.mem_cons]
   constructor
   ·exact .inr
   ·rintro (rfl|h')
    ·simpa using h
    ·exact h'
  ·rw[List.mem_cons,mem_dedup,List.mem_cons]
def FW (ro:Option Nat):Fence:={ fn:=fun _=>True,depth:=none,alive:=false,round:=ro }
theorem semAt_of {P:Program} {o:Oper} {ρ:Operand→Value} {w:World} {R:Result Next} (hr:(execOp ρ o).run P w=R) (hn:∀d w',R≠.ok (.defer d) w') (hh:∀d c w',o.op=.defer c→R≠.halt d w') (ro:Option Nat):(o.semAt ro ρ).run P w=R:=by
 rw[Oper.semAt_eq]
 ·exact hr
 ·intro c hc
  simp only[execOp,hc,Sem.run_bind] at hr
  cases hq:(resolve ρ c o.type).run P w with
  |ok d w1=>
   rw[hq] at hr
   exact hn d w1 hr.symm
  |halt d w1=>
   rw[hq] at hr
   exact hh d c w1 hc hr.symm
theorem wp_value {ro:Option Nat} {P:Program} {o:Oper} {a:Act} {w w':World} {x:Value} {next:Act→World→Prop} {Q:Exit→Act→World→Prop}
  (hr:(execOp a.eval o).run P w=.ok (.value x) w') (hn:next (a.put o.dst x) w'):o.wpIn (FW ro) 0 P a w next Q:=by
 refine⟨fun _ _=>trivial,?_⟩
 rw[semAt_of hr (fun d w' e=>by cases e) (fun d c w' _ e=>by cases e)]; exact hn
theorem wp_skip' {ro:Option Nat} {P:Program} {o:Oper} {a:Act} {w w':World} {next:Act→World→Prop} {Q:Exit→Act→World→Prop}
  (hr:(execOp a.eval o).run P w=.ok .skip w') (hn:next (a.put o.dst Go.undef) w'):o.wpIn (FW ro) 0 P a w next Q:=by
 refine⟨fun _ _=>trivial,?_⟩
 rw[semAt_of hr (fun d w' e=>by cases e) (fun d c w' _ e=>by cases e)]; exact hn
theorem callsIn_of {ro:Option Nat} {n:Nat} {P:Program} {f:FuncId} {args:Array Value} {w:World} {R:Ending→World→Prop} (h:Calls P f args w R):CallsIn (FW ro) n P f args w R:=
 ⟨trivial,fun cs _=>let ⟨e,w',fr,r,s,x⟩:=h cs; ⟨e,w',fr,r,comesIn_wide.2 s,x⟩⟩
theorem calls_of {P:Program} {f:FuncId} {args:Array Value} {w:World} {R:Ending→World→Prop} (h:CallsIn (FW none) 0 P f args w R):Calls P f args w R:=callsIn_wide.1 h
theorem rep_int {h g w k n x} (r:Rep h g w (.int k n) x):x=.int k n:=by cases r; rfl
theorem rep_nils {h g w x} (r:Rep h g w .nils x):x=.slice none 0 0:=by cases r; rfl
theorem rep_bool {h g w b x} (r:Rep h g w (.bool b) x):x=.bool b:=by cases r; rfl
section
variable {P:Program} {T:Tab} {o:Oper} {a:Act} {w:World} {α:Type} {r:α} {h:List ABlk} {g:Gh}
theorem un_sound (op:UnOp) (t:TypeId) (x:Operand) (ho:o.op=.unOp op t x) (u:AVal) (k:AVal→Option α)
  (hu:Rep h g w u (a.eval x)) (hk:evUn op u k=some r) :
  ∃c z,k c=some r∧Rep h g w c z∧(execOp a.eval o).run P w=.ok (.value z) w:=by
 unfold evUn at hk
 split at hk
 ·have hx:=rep_bool hu
  exact⟨_,_,hk,.bool _,by simp[execOp,ho,hx,Op.unary]⟩
 ·have hx:=rep_int hu
  exact⟨_,_,hk,.int _ _,by simp[execOp,ho,hx,Op.unary,Op.intArith]⟩
 ·cases hk
theorem cellsAt_rep {K} (s:St K h g w) {v:AVal} {x:Value} (hr:Rep h g w v x) {cs:List AVal} (hc:cellsAt h v=some cs) :
  ∃b o,x=.pointer (some ⟨b,o,none⟩)∧∀(j:Nat) c,cs[j]?=some c→∃u,w.cell? ⟨b,o+j,none⟩=some u∧Rep h g w c u:=by
 unfold cellsAt at hc
 split at hc
 ·rename_i i off
  split at hc
  ·rename_i wr ds hh
   cases hc
   have hi:=getD_some (by simp) hh
   obtain⟨b,arr,t,h1,h2,h3,h4⟩:=s.blk i _ hi
   cases hr with
   |op _ _ _ a1 a2 a3=>
    obtain⟨b',h5,h6⟩:=a3 wr ds hi
    rw[h1] at h5; cases h5
    refine⟨b,off,h6,fun j c hj=>?_⟩
    rw[List.getElem?_drop] at hj
    have hlt:=(List.getElem?_eq_some_iff.1 hj).1
    have hx:arr[off+j]?=some arr[off+j]:=Array.getElem?_eq_getElem (by omega)
    obtain⟨a5,a6⟩:=h4 _ c _ hj hx
    exact⟨_,by rw[cell_of_row w b _ arr t (0,0) h2]; exact hx,a6⟩
  ·cases hc
 ·rename_i ds
  cases hc
  cases hr with
  |rp _ b o us a1 a2 a3=>exact⟨b,o,rfl,fun j c hj=>⟨us j,a2 j c hj,a3 j c hj⟩⟩
 ·rename_i i ix off
  split at hc
  ·rename_i wr t e xs hh
   split at hc
   case isFalse=>cases hc
   rename_i h0
   cases hc
   have hi:=getD_some (by simp) hh
   obtain⟨vs,h1,h2⟩:=(rowOk_iff h0).1 (s.blk i _ hi)
   cases hr with
   |oe _ _ _ _ a1 a2 a3=>
    obtain⟨hlt,b,n,c,h5,h6⟩:=a3 wr t e xs hi h0
    refine⟨b,ix*e.size+off,h6,fun j c hj=>?_⟩
    rw[List.getElem?_drop] at hj
    have hx:xs[ix]?=some (xs.getD ix e.dflt):=by rw[List.getD_eq_getElem?_getD,List.getElem?_eq_getElem hlt]; rfl
    obtain⟨u,hu,hru⟩:=h2 ix _ _ c hx hj
    have hcell:=h1.cells (g:=b) (by rw[h5]; rfl) _ u hu
    rw[Addr.add_lit,Nat.zero_add] at hcell
    exact⟨u,by rw[Nat.add_assoc]; exact hcell,hru⟩
  ·cases hc
 ·cases hc
theorem isAggT_run (hT:TabOk P T) {t:TypeId} {b:Bool} (h:isAggT T t=some b):(isAgg t).run P w=.ok b w∧∃d,T.und t=some d:=by
 unfold isAggT at h
 split at h
 ·rename_i l hl
  cases h
  obtain⟨fs,h1,_⟩:=und_recd hT hl
  exact⟨by simp[isAgg,run_underlying h1],_,hl⟩
 ·rename_i n x hl
  cases h
  have h1:=und_arr hT hl
  exact⟨by simp[isAgg,run_underlying h1],_,hl⟩
 ·rename_i d hd h1 h2
  cases h
  refine⟨?_,_,h2⟩
  cases d with
  |recd l=>exact absurd rfl (hd l)
  |arr n x=>exact absurd rfl (h1 n x)
  |int k=>simp[isAgg,run_underlying (und_int hT h2)]
  |bool=>simp[isAgg,run_underlying (und_bool hT h2)]
  |str=>simp[isAgg,run_underlying (und_str hT h2)]
  |sl x=>simp[isAgg,run_underlying (und_sl hT h2)]
  |map x y=>simp[isAgg,run_underlying (und_map hT h2)]
  |ifc=>
   obtain⟨m,hm⟩:=und_ifc hT h2
   simp[isAgg,run_underlying hm]
  |other=>
   obtain⟨d,hd,h3,h4,_⟩:=und_other hT h2
   unfold isAgg
   rw[Sem.run_bind,run_underlying hd,Result.andThen_ok]
   split
   ·exact absurd rfl (h3 _)
   ·exact absurd rfl (h4 _ _)
   ·rfl
 ·cases h
theorem load_var (hT:TabOk P T) {t:TypeId} {cs:List AVal} {b n:Nat} {v:AVal} (hc:∀(j:Nat) c,cs[j]?=some c→∃u,w.cell? ⟨b,n+j,none⟩=some u∧Rep h g w c u)
  (hp:packT T t cs=some v):∃x,(loadVar t ⟨b,n,none⟩).run P w=.ok x w∧Rep h g w v x:=by
 unfold packT at hp
 split at hp
 ·rename_i ha
  obtain⟨hr,d,hd⟩:=isAggT_run (w:=w) hT ha
  obtain⟨i,hi,hsz,_⟩:=tab_info hT hd
  split at hp
  ·rename_i hlen
   cases hp
   have hall:∀j,j<T.size t→∃u,w.cell? ⟨b,n+j,none⟩=some u∧Rep h g w (cs.getD j .any) u:=fun j hj=>by
    rw[List.getD_eq_getElem?_getD,List.getElem?_eq_getElem (by omega)]
    exact hc j _ (List.getElem?_eq_getElem (by omega))
   have hf:∃f:Nat→Value,∀j,j<T.size t→w.cell? ⟨b,n+j,none⟩=some (f j)∧Rep h g w (cs.getD j .any) (f j):=
    ⟨fun j=>if hj:j<T.size t then (hall j hj).choose else Go.undef,fun j hj=>by simp only[dif_pos hj]; exact (hall j hj).choose_spec⟩
   obtain⟨f,hf⟩:=hf
   refine⟨.agg (((List.range (T.size t)).map f).toArray),?_,?_⟩
   ·have hl:=run_loadCells_list (P:=P) w ⟨b,n,none⟩ ((List.range (T.size t)).map f) (fun j v hv=>by
     rw[Addr.add_lit]
     rw[List.getElem?_map] at hv
     have hj:j<T.size t:=by
      rcases Nat.lt_or_ge j (T.size t) with h|h
      ·exact h
      ·rw[List.getElem?_eq_none (by simpa using h)] at hv; cases hv
     rw[List.getElem?_range hj] at hv
     cases hv
     exact (hf j hj).1)
    rw[List.length_map,List.length_range] at hl
    simp[loadVar,hr,sizeOf,typeInfo,hi,hsz,hl]
   ·refine .agg _ _ (by simp; omega) fun j c x hcj hx=>?_
    rw[List.getElem?_take] at hcj
    split at hcj
    ·rename_i hj
     have:=(hf j hj).2
     rw[List.getD_eq_getElem?_getD,hcj] at this
     have e:x=f j:=by
      simp[List.getElem?_map,List.getElem?_range hj] at hx; exact hx.symm
     rw[e]; exact this
    ·cases hcj
  ·cases hp
 ·rename_i ha
  obtain⟨hr,_⟩:=isAggT_run (w:=w) hT ha
  split at hp
  ·rename_i c cs'
   cases hp
   obtain⟨u,hu,hru⟩:=hc 0 _ rfl
   refine⟨u,?_,hru⟩
   rw[Nat.add_zero] at hu
   simp[loadVar,hr,hu]
  ·cases hp
 ·cases hp
theorem load_sound {K} (hT:TabOk P T) (s:St K h g w) (t:TypeId) (x:Operand) (ho:o.op=.load t x) (u v:AVal) (cs:List AVal)
  (hu:Rep h g w u (a.eval x)) (hc:cellsAt h u=some cs) (hp:packT T t cs=some v) :
  ∃z,Rep h g w v z∧(execOp a.eval o).run P w=.ok (.value z) w:=by
 obtain⟨b,n,h1,h2⟩:=cellsAt_rep s hu hc
 obtain⟨z,h3,h4⟩:=load_var hT h2 hp
 exact⟨z,h4,by simp[execOp,ho,Instr.loadAt,Instr.sureAddr,h1,h3]⟩
end
end Go.Proofs.YtpgfncncgjihpaaGreat
