/- A part of the proof: ShCore, ShRel, ShHeap, ShWrite, ShOps, ShOps2, ShOps3, ShOps4, ShOps5, ShOps6, ShOps7, ShNext, ShRun. -/
import GoSem.Step
import Derived.Orders
import Derived.Laws.Cells
import Derived.Below
import Derived.Laws.StructEq
import Derived.ChangeKeysEq
import Derived.WideKeyRuns
import Derived.Deep.AppendSrc
import Derived.Laws.AppendOwn
import Derived.Laws.BytesArg
set_option linter.unusedVariables false
set_option linter.unusedSimpArgs false
/- A shadow of the machine: what a Go function does, over an abstract memory, without capacities, without places in memory and without open orders. Definitions. -/
namespace Go.Proofs.Sh
open Go
inductive Tr(α:Type) where
 | nil
 | node (v:Option α) (l r:Tr α)
namespace Tr
variable {α:Type}
noncomputable def get(t:Tr α):Nat→Option α:=
 @Tr.rec α (fun _=>Nat→Option α) (fun _=>none)
  (fun v _ _ gl gr n=>@Bool.rec (fun _=>Option α) (@Bool.rec (fun _=>Option α) (gr (Nat.sub (Nat.div n 2) 1)) (gl (Nat.div n 2)) (Nat.beq (Nat.mod n 2) 1)) v (Nat.beq n 0)) t
noncomputable def path(x:α)(f:Nat):Nat→Tr α:=
 @Nat.rec (fun _=>Nat→Tr α) (fun _=>.nil)
  (fun _ ih n=>@Bool.rec (fun _=>Tr α) (@Bool.rec (fun _=>Tr α) (.node none .nil (ih (Nat.sub (Nat.div n 2) 1))) (.node none (ih (Nat.div n 2)) .nil) (Nat.beq (Nat.mod n 2) 1)) (.node (some x) .nil .nil) (Nat.beq n 0)) f
noncomputable def setR(x:α)(t:Tr α):Nat→Tr α:=
 @Tr.rec α (fun _=>Nat→Tr α) (fun n=>path x (Nat.succ n) n)
  (fun v l r gl gr n=>@Bool.rec (fun _=>Tr α) (@Bool.rec (fun _=>Tr α) (.node v l (gr (Nat.sub (Nat.div n 2) 1))) (.node v (gl (Nat.div n 2)) r) (Nat.beq (Nat.mod n 2) 1)) (.node (some x) l r) (Nat.beq n 0)) t
noncomputable def set(t:Tr α)(n:Nat)(x:α):Tr α:=setR x t n
end Tr
noncomputable section
structure Row where
 pos:Nat
 esz:Nat
 vals:List Value
 ok:Bool
inductive AObj where
 | rows (rs:List Row) (rw:Bool)
 | map (es:List (Value×Value))
 | iter (s:List UInt8) (pos:Nat)
structure AH where
 objs:Tr AObj
 next:Nat
abbrev Fr:=Tr Value
def big:Nat:=9223372036854775808
def A5p(c:Nat):Nat:=bif Nat.ble big c then c-big else c
def A9w(c:Nat):Bool:=!Nat.ble big c
def AH.push(H:AH)(o:AObj):Nat×AH:=(H.next,{ objs:=H.objs.set H.next o,next:=H.next+1 })
def AH.put(H:AH)(g:Nat)(o:AObj):AH:={ H with objs:=H.objs.set g o }
def AH.row?(H:AH)(a:Addr):Option Row:=
 match H.objs.get a.block,a.spot with
 | some (.rows rs _),some k=>match rs[k]? with
  | some r=>bif r.ok then some r else none
  | none=>none
 | _,_=>none
def AH.cell(H:AH)(a:Addr):Option Value:=
 match H.row? a with
 | some r=>r.vals[a.off]?
 | none=>none
def A4m(l:List Value)(o n:Nat):Option (List Value):=
 bif Nat.ble (o+n) l.length then some ((l.drop o).take n) else none
def AH.cells(H:AH)(a:Addr)(n:Nat):Option (List Value):=
 match H.row? a with
 | some r=>A4m r.vals a.off n
 | none=>none
def B0d(r:Row)(lo hi:Nat):Bool:=Nat.blt r.pos hi&&Nat.blt lo (r.pos+r.vals.length)
def A6e(lo hi:Nat)(k:Nat)(r':Row):Nat→List Row→List Row
 | _,[]=>[]
 | j,r :: rs=>(bif Nat.beq j k then r' else bif B0d r lo hi then { r with ok:=false } else r) :: A6e lo hi k r' (j+1) rs
def setCells:List Value→Nat→List Value→List Value
 | l,_,[]=>l
 | l,o,v :: vs=>setCells (l.set o v) (o+1) vs
def AH.write(H:AH)(a:Addr)(vs:List Value):Option AH:=
 match H.objs.get a.block,a.spot with
 | some (.rows rs true),some k=>match rs[k]? with
  | some r => bif r.ok && Nat.ble (a.off + vs.length) r.vals.length then
      some (H.put a.block (.rows (A6e (r.pos + a.off) (r.pos + a.off + vs.length) k { r with vals := setCells r.vals a.off vs } 0 rs) true)) else none
  | none=>none
 | _,_=>none
def AH.new(H:AH)(esz:Nat)(vs:List Value):Addr×AH:=
 let (g,H'):=H.push (.rows [{ pos:=0,esz,vals:=vs,ok:=true }] true)
 (⟨g,0,some 0⟩,H')
def plus(a:Addr)(n:Nat):Addr:={ a with off:=a.off+n }
def A3f(P:Program)(t:TypeId):Option Bool:=
 match P.underlying t with
 | some (.struct _)|some (.array _ _)=>some true
 | some _=>some false
 | none=>none
def scalar:Value→Bool
 | .bool _ | .int _ _ | .float _ _ | .complex _ _ _ | .string _ | .pointer none | .map none | .nilFunc | .nilIface=>true
 | .slice none m c=>Nat.beq m 0&&Nat.beq c 0
 | _=>false
def A0y:Value→Bool
 | .agg ⟨x⟩=>x.all scalar
 | .tuple _=>false
 | .iface _ x=>scalar x
 | v=>scalar v
def A5b(P:Program)(t:TypeId):Option Nat:=(P.info? t).map (·.size)
def zeroAt(P:Program)(t:TypeId):Option Value:=(P.info? t).bind fun i=>i.zero.bind fun z=>bif A0y z then some z else none
def A6a:Value→List Value
 | .agg cs=>cs.toList
 | v=>[v]
def isCell:Value→Bool
 | .agg _ | .tuple _=>false
 | _=>true
def A7e(P:Program)(t:TypeId)(H:AH):Value→Option Value
 | .pointer (some a)=>match A3f P t with
  | some true=>(A5b P t).bind fun n=>(H.cells a n).map fun l=>.agg l.toArray
  | some false=>H.cell a
  | none=>none
 | _=>none
def A7d(P:Program)(t:TypeId)(H:AH)(v:Value):Value→Option AH
 | .pointer (some a)=>(A5b P t).bind fun n=>bif Nat.beq (A6a v).length n&&(A6a v).all isCell then H.write a (A6a v) else none
 | _=>none
def anew(P:Program)(t:TypeId)(H:AH)(v:Value):Option (Value×AH):=
 (A5b P t).bind fun n=>bif Nat.beq (A6a v).length n&&(A6a v).all isCell then let (a,H'):=H.new n (A6a v);some (.pointer (some a),H') else none
def A3w(place:Nat→Option (Nat×Nat)):List Value→List (Nat×Value)→Option (List Value)
 | cells,[]=>some cells
 | cells,(i,v) :: rest=>
  match place i with
  | none=>none
  | some (off,size)=>bif Nat.beq (A6a v).length size&&Nat.ble (off+size) cells.length&&(A6a v).all isCell then A3w place (setCells cells off (A6a v)) rest else none
def fieldsOf(P:Program)(t:TypeId):Option (List Field):=
 match P.underlying t with
 | some (.struct fs)=>some fs.toList
 | _=>none
def placesOf(P:Program):List Field→Option (List (Nat×Nat))
 | []=>some []
 | f :: fs=>(A5b P f.type).bind fun s=>(placesOf P fs).map fun l=>(f.offset,s) :: l
def A9n(P:Program)(t:TypeId)(parts:List (Nat×Value)):Option Value:=
 (zeroAt P t).bind fun z=>
  match P.underlying t with
  | some (.struct fs)=>(placesOf P fs.toList).bind fun pl=>(A3w (fun i=>pl[i]?) (A6a z) parts).map fun l=>.agg l.toArray
  | some (.array _ e)=>(A5b P e).bind fun s=>(A3w (fun i=>some (i*s,s)) (A6a z) parts).map fun l=>.agg l.toArray
  | _=>none
def repl(n:Nat)(z:List Value):List Value:=
 match n with
 | 0=>[]
 | n+1=>z++repl n z
def A4a(P:Program)(t:TypeId)(len:Nat)(parts:List (Nat×Value))(H:AH):Option (Value×AH):=
 match P.underlying t with
 | some (.slice e) => (A5b P e).bind fun s => (zeroAt P e).bind fun z =>
     bif Nat.ble 1 s&&Nat.beq (A6a z).length s&&Nat.ble (len*s) 16777216 then
       (A3w (fun i => some (i*s, s)) (repl len (A6a z)) parts).map fun l => let (a, H') := H.new s l;(.slice (some a) len len, H')
     else none
 | _=>none
def A4f(P:Program)(t:TypeId)(lenV capV:Value)(H:AH):Option (Value×AH):=
 match P.underlying t,lenV,capV with
 | some (.slice e), .int .i64 (.ofNat l), .int .i64 (.ofNat c) => (P.info? e).bind fun i => (zeroAt P e).bind fun z =>
     bif Nat.ble 1 i.size&&Nat.beq (A6a z).length i.size&&Nat.ble l c&&Nat.ble (i.bytes*c) 281474976710656&&Nat.ble c 281474976710656 then
       let (a, H') := H.new i.size (repl c (A6a z));some (.slice (some a) l c, H')
     else none
 | _,_,_=>none
def A0b(P:Program)(s:TypeId)(f:Nat):Value→Option Value
 | .pointer (some a)=>(fieldsOf P s).bind fun fs=>(fs[f]?).bind fun fd=>(A5b P fd.type).bind fun n=>bif Nat.ble 1 n&&a.spot.isSome then some (.pointer (some (plus a fd.offset))) else none
 | _=>none
def A4b(P:Program)(t:TypeId)(x:Value):Value→Option Value
 | .int _ (.ofNat i)=>
  match P.underlying t,x with
  | some (.slice e),.slice (some a) len _=>(A5b P e).bind fun s=>bif Nat.blt i len&&a.spot.isSome then some (.pointer (some (plus a (i*s)))) else none
  | some (.array len e),.pointer (some a)=>(A5b P e).bind fun s=>bif Nat.blt i len&&a.spot.isSome then some (.pointer (some (plus a (i*s)))) else none
  | _,_=>none
 | _=>none
def apart(P:Program)(t:TypeId)(cs:List Value)(off:Nat):Option Value:=
 match A3f P t with
 | some true=>(A5b P t).bind fun n=>(A4m cs off n).map fun l=>.agg l.toArray
 | some false=>cs[off]?
 | none=>none
def C9f(P:Program)(t:TypeId)(f:Nat):Value→Option Value
 | .agg cs=>(fieldsOf P t).bind fun fs=>(fs[f]?).bind fun fd=>apart P fd.type cs.toList fd.offset
 | _=>none
def B6c(P:Program)(t:TypeId)(x:Value):Value→Option Value
 | .int _ (.ofNat i)=>
  match P.underlying t,x with
  | some (.array len e),.agg cs=>(A5b P e).bind fun s=>bif Nat.blt i len then apart P e cs.toList (i*s) else none
  | some .string,.string s=>(s.data.toList[i]?).map fun b=>.int .u8 b.toNat
  | _,_=>none
 | _=>none
def bound(d:Nat):Option Value→Option Nat
 | none=>some d
 | some (.int _ (.ofNat n))=>some n
 | _=>none
def A83(H:AH)(a:Addr)(s:Nat):Bool:=
 match H.row? a with
 | some r=>Nat.beq r.esz s
 | none=>false
def A7s(P:Program)(t:TypeId)(H:AH)(x:Value)(lo hi mx:Option Value):Option Value:=
 match P.underlying t,x with
 | some .string,.string s=>
  (bound 0 lo).bind fun l=>(bound s.size hi).bind fun h=>bif Nat.ble l h&&Nat.ble h s.size&&mx.isNone then some (.string ⟨((s.data.toList.drop l).take (h-l)).toArray⟩) else none
 | some (.slice e),.slice none len cap=>
  (A5b P e).bind fun _=>(bound 0 lo).bind fun l=>(bound len hi).bind fun h=>(bound 0 mx).bind fun m=>bif Nat.beq l 0&&Nat.beq h 0&&Nat.beq m 0&&(mx.isNone||hi.isSome) then some (.slice none 0 0) else none
 | some (.slice e),.slice (some a) len cap=>
  (A5b P e).bind fun s=>(bound 0 lo).bind fun l=>(bound len hi).bind fun h=>
   match mx with
   | none => bif Nat.ble l h && Nat.ble h (A5p cap) && (A9w cap || Nat.beq l 0 || Nat.blt l (A5p cap) || Nat.beq l h) && (Nat.beq l 0 || A83 H a s) then
       some (.slice (some (bif Nat.beq l 0||(A9w cap&&Nat.beq l cap) then a else plus a (l*s))) (h-l) (cap-l)) else none
   | some mv => (bound 0 (some mv)).bind fun m => bif Nat.ble l h && Nat.ble h m && Nat.ble m (A5p cap) && Nat.blt m big && A83 H a s && hi.isSome then
       some (.slice (some (bif Nat.beq l 0||Nat.beq l m then a else plus a (l*s))) (h-l) (m-l)) else none
 | _,_=>none
def A0l:List UInt8→List UInt8→Bool
 | [],[]=>true
 | a :: x,b :: y=>Nat.beq a.toNat b.toNat&&A0l x y
 | _,_=>false
def A1n:IntKind→IntKind→Bool
 | .i8,.i8 | .i16,.i16 | .i32,.i32 | .i64,.i64 | .u8,.u8 | .u16,.u16 | .u32,.u32 | .u64,.u64=>true
 | _,_=>false
def B4d:Int→Int→Bool
 | .ofNat a,.ofNat b=>Nat.beq a b
 | .negSucc a,.negSucc b=>Nat.beq a b
 | _,_=>false
def D8a:Option Nat→Option Nat→Bool
 | none,none=>true
 | some a,some b=>Nat.beq a b
 | _,_=>false
def B5p(a b:Addr):Bool:=Nat.beq a.block b.block&&Nat.beq a.off b.off&&D8a a.spot b.spot
mutual
def veq:Value→Value→Bool
 | .bool a,.bool b=>a == b
 | .int j a,.int k b=>A1n j k&&B4d a b
 | .string a,.string b=>A0l a.data.toList b.data.toList
 | .pointer none,.pointer none=>true
 | .pointer (some a),.pointer (some b)=>B5p a b
 | .slice none m c,.slice none n d=>Nat.beq m n&&Nat.beq c d
 | .slice (some a) m c,.slice (some b) n d=>B5p a b&&Nat.beq m n&&Nat.beq c d
 | .map none,.map none=>true
 | .map (some a),.map (some b)=>Nat.beq a b
 | .func (.func f) ⟨x⟩ ⟨y⟩,.func (.func g) ⟨z⟩ ⟨u⟩=>Nat.beq f g&&veqs x z&&veqs y u
 | .nilFunc,.nilFunc=>true
 | .nilIface,.nilIface=>true
 | .iface t a,.iface u b=>Nat.beq t u&&veq a b
 | .agg ⟨x⟩,.agg ⟨y⟩=>veqs x y
 | .tuple ⟨x⟩,.tuple ⟨y⟩=>veqs x y
 | _,_=>false
def veqs:List Value→List Value→Bool
 | [],[]=>true
 | a :: x,b :: y=>veq a b&&veqs x y
 | _,_=>false
end
def A3p:List UInt8→List UInt8→Bool
 | _,[]=>false
 | [],_ :: _=>true
 | a :: x,b :: y=>Nat.blt a.toNat b.toNat||(Nat.beq a.toNat b.toNat&&A3p x y)
def A4v:Int→Int→Bool
 | .ofNat a,.ofNat b=>Nat.ble a b
 | .negSucc a,.negSucc b=>Nat.ble b a
 | .negSucc _,.ofNat _=>true
 | .ofNat _,.negSucc _=>false
def eqFields(P:Program)(eq:TypeId→Value→Value→Option Bool)(xs ys:List Value):List Field→Option Bool
 | []=>some true
 | f :: fs => bif f.name == "_" then eqFields P eq xs ys fs else
     (apart P f.type xs f.offset).bind fun a => (apart P f.type ys f.offset).bind fun b => match eq f.type a b with
       | some true => eqFields P eq xs ys fs
       | r => r
def B2v(P:Program)(eq:TypeId→Value→Value→Option Bool)(e:TypeId)(n:Nat)(xs ys:List Value):List Nat→Option Bool
 | []=>some true
 | i :: is => (apart P e xs (i * n)).bind fun a => (apart P e ys (i * n)).bind fun b => match eq e a b with
       | some true => B2v P eq e n xs ys is
       | r => r
def eqT(P:Program):Nat→TypeId→Value→Value→Option Bool
 | 0,_,_,_=>none
 | d+1,t,x,y=>
  match P.underlying t,x,y with
  | some .bool,.bool a,.bool b=>some (a == b)
  | some (.int _),.int j a,.int k b=>bif A1n j k then some (B4d a b) else none
  | some .string,.string a,.string b=>some (A0l a.data.toList b.data.toList)
  | some (.pointer _),.pointer none,.pointer b=>some b.isNone
  | some (.pointer _),.pointer (some _),.pointer none=>some false
  | some (.slice _),.slice none _ _,.slice b _ _=>some b.isNone
  | some (.slice _),.slice (some _) _ _,.slice none _ _=>some false
  | some (.map _ _),.map none,.map b=>some b.isNone
  | some (.map _ _),.map (some _),.map none=>some false
  | some (.func _ _ _),.nilFunc,.nilFunc=>some true
  | some (.func _ _ _),.nilFunc,.func _ _ _=>some false
  | some (.func _ _ _),.func _ _ _,.nilFunc=>some false
  | some (.interface _),.nilIface,.nilIface=>some true
  | some (.interface _),.nilIface,.iface _ _=>some false
  | some (.interface _),.iface _ _,.nilIface=>some false
  | some (.interface _),.iface t1 a,.iface t2 b=>bif Nat.beq t1 t2 then (P.info? t1).bind fun i=>bif i.comparable then eqT P d t1 a b else none else some false
  | some (.struct fs),.agg xs,.agg ys=>bif P.stoodInHeld t then none else eqFields P (eqT P d) xs.toList ys.toList fs.toList
  | some (.array len e),.agg xs,.agg ys=>(A5b P e).bind fun n=>B2v P (eqT P d) e n xs.toList ys.toList (List.range len)
  | _,_,_=>none
def A1g:Nat:=20
def B8z(P:Program)(t:TypeId)(const:Bool)(x y:Value):Bool:=
 match x,y with
 | .nilIface,.nilIface=>const
 | .agg _,.agg _=>!P.eqGuardType P.depth t
 | _,_=>true
def aeq(P:Program)(t:TypeId)(const:Bool)(x y:Value):Option Bool:=bif B8z P t const x y then eqT P A1g t x y else none
def aint(op:BinOp)(j:IntKind)(a b:Int):Option Value:=
 match op with
 | .add=>some (.int j (j.wrap (a+b)))
 | .sub=>some (.int j (j.wrap (a-b)))
 | .mul=>some (.int j (j.wrap (a*b)))
 | .quo=>bif B4d b 0 then none else some (.int j (j.wrap (a.tdiv b)))
 | .rem=>bif B4d b 0 then none else some (.int j (a.tmod b))
 | .and=>some (.int j (j.wrap ((BitVec.ofInt j.bits a) &&& (BitVec.ofInt j.bits b)).toNat))
 | .or=>some (.int j (j.wrap ((BitVec.ofInt j.bits a) ||| (BitVec.ofInt j.bits b)).toNat))
 | .xor=>some (.int j (j.wrap ((BitVec.ofInt j.bits a) ^^^ (BitVec.ofInt j.bits b)).toNat))
 | .eql=>some (.bool (B4d a b))
 | .neq=>some (.bool (!B4d a b))
 | .lss=>some (.bool (!A4v b a))
 | .leq=>some (.bool (A4v a b))
 | .gtr=>some (.bool (!A4v a b))
 | .geq=>some (.bool (A4v b a))
 | _=>none
def A4j(left:Bool)(k:IntKind)(a b:Int):Option Value:=
 bif A4v 0 b then let n:=min b.toNat k.bits;some (.int k (bif left then k.wrap (a*2^n) else a.fdiv (2^n))) else none
def astr(op:BinOp)(a b:ByteArray):Option Value:=
 let e:=A0l a.data.toList b.data.toList
 let l:=A3p a.data.toList b.data.toList
 match op with
 | .add=>bif Nat.ble (a.size+b.size) 9223372036854775807 then some (.string ⟨(a.data.toList++b.data.toList).toArray⟩) else none
 | .eql=>some (.bool e)
 | .neq=>some (.bool !e)
 | .lss=>some (.bool l)
 | .leq=>some (.bool (l||e))
 | .gtr=>some (.bool !(l||e))
 | .geq=>some (.bool !l)
 | _=>none
def abin(P:Program)(t:TypeId)(const:Bool)(op:BinOp)(x y:Value):Option Value:=
 match x,y with
 | .int j a,.int k b=>match op with
  | .shl=>A4j true j a b
  | .shr=>A4j false j a b
  | op=>bif A1n j k then aint op j a b else none
 | .string a,.string b=>astr op a b
 | x,y=>match op with
  | .eql=>(aeq P t const x y).map fun b=>.bool b
  | .neq=>(aeq P t const x y).map fun b=>.bool !b
  | _=>none
def aun(op:UnOp)(x:Value):Option Value:=
 match op,x with
 | .neg,.int k n=>some (.int k (k.wrap (0-n)))
 | .not,.bool b=>some (.bool !b)
 | _,_=>none
def A5d(s:Nat)(base:Option Addr)(len cap n:Nat)(new:List Value)(H:AH):Option (Value×AH):=
 bif Nat.beq n 0 then some (.slice base len cap,H) else
 match base with
 | none=>bif Nat.beq len 0&&Nat.beq cap 0 then let (a,H'):=H.new s new;some (.slice (some a) n (n+big),H') else none
 | some a=>
  bif Nat.beq cap 0 then (bif Nat.beq len 0 then let (a',H'):=H.new s new;some (.slice (some a') n (n+big),H') else none) else
  bif Nat.ble (len+n) (A5p cap) then
   (H.write (plus a (len*s)) new).map fun H'=>(.slice base (len+n) cap,H')
  else (H.cells a (len*s)).bind fun old=>
   bif A9w cap then let (a',H'):=H.new s (old++new);some (.slice (some a') (len+n) (len+n+big),H')
   else match H.objs.get a.block,a.spot with
    | some (.rows rs true),some k=>(rs[k]?).bind fun r=>bif !Nat.beq r.esz s then none else
     let lo:=r.pos+a.off+len*s
     let rs':=A6e lo (lo+n*s) rs.length r 0 rs++[{ pos:=r.pos+a.off,esz:=s,vals:=old++new,ok:=true }]
     some (.slice (some ⟨a.block,0,some rs.length⟩) (len+n) (len+n+big),H.put a.block (.rows rs' true))
    | _,_=>none
def newCells(s:Nat)(H:AH):Value→Option (Nat×List Value)
 | .slice none n _=>bif Nat.beq n 0 then some (0,[]) else none
 | .slice (some a) n _=>bif Nat.beq n 0 then some (0,[]) else (H.cells a (n*s)).map fun l=>(n,l)
 | .string b=>bif Nat.beq s 1 then some (b.size,b.data.toList.map fun x=>.int .u8 x.toNat) else none
 | _=>none
def B6w(P:Program)(t:TypeId)(k:Value):List (Value×Value)→Nat→Option (Option Nat)
 | [],_=>some none
 | (k',_) :: es,i=>match eqT P A1g t k k' with
  | some true=>some (some i)
  | some false=>B6w P t k es (i+1)
  | none=>none
def plainCell:Value→Bool
 | .int _ _ | .string _ | .bool _=>true
 | _=>false
def plainKey:Value→Bool
 | .agg ⟨cs⟩=>cs.all plainCell
 | v=>plainCell v
def keyT(P:Program):Nat→TypeId→Value→Bool
 | 0,_,_=>false
 | d+1,t,v=>
  match P.underlying t,v with
  | some (.struct fs),.agg cs=>fs.toList.all fun f=>f.name == "_" || (match apart P f.type cs.toList f.offset with|some x=>keyT P d f.type x|none=>false)
  | some (.array len e),.agg cs=>match A5b P e with
   | some n=>(List.range len).all fun i=>match apart P e cs.toList (i*n) with|some x=>keyT P d e x|none=>false
   | none=>false
  | some (.struct _),_|some (.array _ _),_|some (.interface _),_|none,_=>false
  | some _,_=>true
def A9l(P:Program)(t:TypeId)(k:Value):Bool:=plainKey k&&keyT P A1g t k
def entries(H:AH):Value→Option (List (Value×Value))
 | .map none=>some []
 | .map (some r)=>match H.objs.get r with
  | some (.map es)=>some es
  | _=>none
 | _=>none
def found(P:Program)(e:TypeId)(es:List (Value×Value)):Option Nat→Option (Value×Bool)
 | some i=>(es[i]?).map fun x=>(x.2,true)
 | none=>(zeroAt P e).map fun z=>(z,false)
def A4r(P:Program)(t:TypeId)(m k:Value)(ok:Bool)(H:AH):Option Value:=
 match P.underlying t with
 | some (.map kt e) => (entries H m).bind fun es => bif A9l P kt k then
     (B6w P kt k es 0).bind fun i => (found P e es i).map fun r => bif ok then .tuple #[r.1, .bool r.2] else r.1
   else none
 | _=>none
def A3g(P:Program)(t:TypeId)(m k v:Value)(H:AH):Option AH:=
 match P.underlying t,m with
 | some (.map kt _),.map (some r)=>match H.objs.get r with
  | some (.map es) => bif A9l P kt k then (B6w P kt k es 0).bind fun i => match i with
      | some i => match es[i]? with
        | some e => bif veq e.1 k then some (H.put r (.map (es.set i (k, v)))) else none
        | none => none
      | none => some (H.put r (.map (es ++ [(k, v)])))
    else none
  | _=>none
 | _,_=>none
def B4l(P:Program)(t:TypeId)(m k:Value)(H:AH):Option AH:=
 match P.underlying t,m with
 | some (.map kt _),.map (some r)=>match H.objs.get r with
  | some (.map es) => bif A9l P kt k then (B6w P kt k es 0).bind fun i => match i with
      | some i => some (H.put r (.map (es.eraseIdx i)))
      | none => some (H.put r (.map es))
    else none
  | _=>none
 | _,_=>none
def srcKind(P:Program)(t:TypeId)(x:Value):Bool:=
 match P.underlying t,x with
 | some (.slice _),.slice _ _ _=>true
 | some .string,.string _=>true
 | _,_=>false
def A3a(P:Program)(b:Builtin)(ts:List TypeId)(args:List Value)(H:AH):Option (Value×AH):=
 match b,ts,args with
 | .append,[t,t'],[.slice base len cap,x]=>
  match P.underlying t with
  | some (.slice e) => (P.info? e).bind fun i => (zeroAt P e).bind fun z =>
      bif srcKind P t' x&&Nat.ble 1 i.size&&Nat.beq (A6a z).length i.size then
        (newCells i.size H x).bind fun r => bif Nat.ble ((len + r.1)*i.bytes) 70368744177664&&Nat.ble (len + r.1) 70368744177664 then A5d i.size base len cap r.1 r.2 H else none
      else none
  | _=>none
 | .len,[t],[x]=>match P.underlying t,x with
  | some (.slice _),.slice _ n _=>some (.int .i64 n,H)
  | some .string,.string s=>some (.int .i64 s.size,H)
  | some (.map _ _),m=>(entries H m).map fun es=>(.int .i64 es.length,H)
  | some (.array n _),_=>some (.int .i64 n,H)
  | _,_=>none
 | .min,_,[.int j a,.int k b]=>bif A1n j k then some (.int j (bif A4v a b then a else b),H) else none
 | .max,_,[.int j a,.int k b]=>bif A1n j k then some (.int j (bif A4v a b then b else a),H) else none
 | .min,_,[.int j a,.int k b,.int l c]=>bif A1n j k&&A1n j l then let m:=bif A4v a b then a else b;some (.int j (bif A4v m c then m else c),H) else none
 | .max,_,[.int j a,.int k b,.int l c]=>bif A1n j k&&A1n j l then let m:=bif A4v a b then b else a;some (.int j (bif A4v m c then c else m),H) else none
 | .delete,t :: _,[m,k]=>(B4l P t m k H).map fun H'=>(undef,H')
 | _,_,_=>none
def bytesOf:List Value→Option (List UInt8)
 | []=>some []
 | .int .u8 (.ofNat b) :: l=>(bytesOf l).map fun r=>UInt8.ofNat b :: r
 | _=>none
def A2i(P:Program)(src dst:TypeId)(x:Value)(H:AH):Option (Value×AH):=
 match P.underlying src,P.underlying dst,x with
 | some _,some (.int k),.int _ n=>some (.int k (k.wrap n),H)
 | some _,some .string,.string s=>some (.string s,H)
 | some (.slice e),some .string,.slice a n _=>
  match P.underlying e with
  | some (.int .u8)=>match a with
   | none=>some (.string ⟨#[]⟩,H)
   | some a=>bif Nat.beq n 0 then none else (H.cells a n).bind fun l=>(bytesOf l).map fun l=>(.string ⟨l.toArray⟩,H)
  | _=>none
 | _,_,_=>none
def ev(F:Fr):Operand→Option Value
 | .tmp t=>F.get t
 | .const v=>bif A0y v then some v else none
 | .global _=>none
 | .func f=>some (.func (.func f) #[] #[])
def evs(F:Fr):List Operand→Option (List Value)
 | []=>some []
 | x :: xs=>(ev F x).bind fun v=>(evs F xs).map fun vs=>v :: vs
def evps(F:Fr):List (Nat×Operand)→Option (List (Nat×Value))
 | []=>some []
 | (i,x) :: xs=>(ev F x).bind fun v=>(evps F xs).map fun vs=>(i,v) :: vs
def evo(F:Fr):Option Operand→Option (Option Value)
 | none=>some none
 | some x=>(ev F x).map some
def isConst:Operand→Bool
 | .const _=>true
 | _=>false
def quiet(H:AH)(v:Option Value):Option (Value×AH):=v.map fun v=>(v,H)
def unit(H:Option AH):Option (Value×AH):=H.map fun H=>(undef,H)
abbrev A1d:=FuncId→List Value→AH→Option (Value×AH)
def C4q(P:Program)(call:A1d)(f:Value)(args:List Value)(H:AH):Option (Value×AH):=
 match f with
 | .func (.func f) first captured=>call f (first.toList++args++captured.toList) H
 | _=>none
def B3j(P:Program)(call:A1d)(r:Value)(name:String)(args:List Value)(H:AH):Option (Value×AH):=
 match r with
 | .iface t v => (P.info? t).bind fun i => (i.methods.find? (·.name == name)).bind fun m =>
     bif m.path.isEmpty then match m.func, P.underlying t with
       | some (f, true), some (.pointer _) => call f (v :: args) H
       | some (_, true), _ => none
       | some (f, false), some (.pointer e) => (A7e P e H v).bind fun x => call f (x :: args) H
       | some (f, false), some _ => call f (v :: args) H
       | _, _ => none
     else none
 | _=>none
def aop(P:Program)(call:A1d)(F:Fr)(H:AH)(o:Oper):Option (Value×AH):=
 match o.op with
 | .move x | .assign x=>quiet H (ev F x)
 | .pick c a b=>match ev F c with
  | some (.bool true)=>quiet H (ev F a)
  | some (.bool false)=>quiet H (ev F b)
  | _=>none
 | .alloc t=>(zeroAt P t).bind fun z=>anew P t H z
 | .box t x=>(ev F x).bind fun v=>anew P t H v
 | .build t ps=>(evps F ps.toList).bind fun ps=>quiet H (A9n P t ps)
 | .buildSlice t n ps=>(evps F ps.toList).bind fun ps=>A4a P t n ps H
 | .load t a=>(ev F a).bind fun a=>quiet H (A7e P t H a)
 | .store t a x=>(ev F a).bind fun a=>(ev F x).bind fun v=>unit (A7d P t H v a)
 | .nilCheck x=>(ev F x).bind fun
  | .pointer (some a)=>some (.pointer (some a),H)
  | .func (.func f) fi c=>some (.func (.func f) fi c,H)
  | _=>none
 | .binOp op t x y _=>(ev F x).bind fun a=>(ev F y).bind fun b=>quiet H (abin P t (isConst x||isConst y) op a b)
 | .unOp op _ x=>(ev F x).bind fun a=>quiet H (aun op a)
 | .convert s d x=>(ev F x).bind fun a=>A2i P s d a H
 | .makeInterface t x=>(ev F x).bind fun a=>match P.underlying t with
  | some (.interface _)|none=>none
  | _=>some (.iface t a,H)
 | .makeFunc fn fi cs=>(evs F fi.toList).bind fun fi=>(evs F cs.toList).bind fun cs=>some (.func fn fi.toArray cs.toArray,H)
 | .makeMap _ none=>let (g,H'):=H.push (.map []);some (.map (some g),H')
 | .makeSlice t l c=>(ev F l).bind fun l=>(ev F c).bind fun c=>A4f P t l c H
 | .slice t x lo hi mx=>(ev F x).bind fun x=>(evo F lo).bind fun lo=>(evo F hi).bind fun hi=>(evo F mx).bind fun mx=>quiet H (A7s P t H x lo hi mx)
 | .fieldAddr t x f=>(ev F x).bind fun x=>quiet H (A0b P t f x)
 | .field t x f=>(ev F x).bind fun x=>quiet H (C9f P t f x)
 | .indexAddr t x i=>(ev F x).bind fun x=>(ev F i).bind fun i=>quiet H (A4b P t x i)
 | .index t x i=>(ev F x).bind fun x=>(ev F i).bind fun i=>quiet H (B6c P t x i)
 | .lookup t m k ok=>(ev F m).bind fun m=>(ev F k).bind fun k=>quiet H (A4r P t m k ok H)
 | .mapUpdate t m k x | .insert t m k x=>(ev F m).bind fun m=>(ev F k).bind fun k=>(ev F x).bind fun x=>unit (A3g P t m k x H)
 | .extract t i=>(ev F t).bind fun
  | .tuple vs=>quiet H (vs.toList[i]?)
  | _=>none
 | .typeAssert x _ t ok=>(ev F x).bind fun
  | .iface u v => bif Nat.beq u t then match P.underlying t with
      | some (.interface _)|none => none
      | _ => some (bif ok then .tuple #[v, .bool true] else v, H)
    else none
  | _=>none
 | .call c=>(evs F c.args.toList).bind fun args=>match c.callee with
  | .builtin b=>A3a P b c.argTypes.toList args H
  | .value f=>(ev F f).bind fun f=>C4q P call f args H
  | .invoke r name=>(ev F r).bind fun r=>B3j P call r name args H
 | _=>none
def put(F:Fr):Option Tmp→Value→Fr
 | none,_=>F
 | some t,v=>F.set t v
def A3m(ops:List Oper)(F:Fr)(o:Oper):Option Bool:=
 match o.guard with
 | none=>some true
 | some (j,want)=>match ((ops[j]?).bind (·.dst)).bind F.get with
  | some (.bool b)=>some (b == want)
  | some _=>some false
  | none=>none
def A6o(P:Program)(call:A1d)(all:List Oper):List Oper→Fr→AH→Option (Fr×AH)
 | [],F,H=>some (F,H)
 | o :: rest,F,H=>
  match A3m all F o with
  | none=>none
  | some false=>A6o P call all rest (put F o.dst undef) H
  | some true=>match aop P call F H o with
   | none=>none
   | some (v,H')=>A6o P call all rest (put F o.dst v) H'
def isEff(o:Oper):Bool:=
 match o.op with
 | .store .. | .mapUpdate .. | .insert ..=>true
 | .call c=>match c.callee with
  | .builtin b=>match b with
   | .len | .cap | .min | .max=>false
   | _=>true
  | _=>true
 | _=>false
def A2d(o:Oper):Bool:=
 match o.op with
 | .alloc _ | .box .. | .buildSlice .. | .makeSlice .. | .makeMap ..=>true
 | _=>false
def isRead(o:Oper):Bool:=
 match o.op with
 | .load .. | .lookup .. | .convert .. | .slice .. | .call _=>true
 | _=>false
def C7w(r q:Row):Bool:=Nat.beq r.pos q.pos&&Nat.beq r.esz q.esz&&veqs r.vals q.vals&&(r.ok == q.ok)
def B2a:AObj→AObj→Bool
 | .rows [r] a,.rows [q] b=>C7w r q&&(a == b)
 | .map [],.map []=>true
 | _,_=>false
inductive Pend where
 | read (i:Nat) (F:Fr) (v:Value)
 | made (i:Nat) (g:Nat) (o:AObj)
def maskOf(acc:List Nat)(i:Nat):List Edge→Nat→Nat
 | [],m=>m
 | e :: es,m=>maskOf acc i es (bif Region.binds .any e then m ||| 2^e.on ||| (acc[i-1-e.on]?).getD 0 else m)
def beforeL:List Oper→Nat→List Nat→List Nat
 | [],_,acc=>acc
 | o :: os,i,acc=>beforeL os (i+1) (maskOf acc i o.after.toList 0 :: acc)
def A6j(ops:List Oper):List Nat:=(beforeL ops 0 []).reverse
def A1y:List Oper→List Nat→Nat→Nat→Bool
 | o :: os,b :: bs,i,acts=>Nat.beq (acts &&& b) acts&&A1y os bs (i+1) (bif isEff o then acts ||| 2^i else acts)
 | _,_,_,_=>true
def A69(float:Bool):List Oper→List Nat→Nat→Nat→Option Nat
 | o :: os,b :: bs,i,done=>bif !done.testBit i&&Nat.beq (done &&& b) b&&(!float||!isEff o) then some i else A69 float os bs (i+1) done
 | _,_,_,_=>none
def early(ops:List Oper)(bs:List Nat):Nat→Nat→List Nat
 | 0,_=>[]
 | n+1,done=>match A69 true ops bs 0 done with
  | some i=>i :: early ops bs n (done ||| 2^i)
  | none=>match A69 false ops bs 0 done with
   | some i=>i :: early ops bs n (done ||| 2^i)
   | none=>[]
def A53(ops:List Oper)(bs:List Nat):List Nat:=
 bif A1y ops bs 0 0 then List.range ops.length else early ops bs ops.length 0
def A8h(P:Program)(call:A1d)(ops:List Oper)(H:AH)(b:Nat):List Pend→Option (List Pend)
 | []=>some []
 | .read i F v :: ps => bif b.testBit i then A8h P call ops H b ps else
     match ops[i]? with
     | some o => match aop P call F H o with
       | some (v', _) => bif veq v v' then (A8h P call ops H b ps).map fun l => .read i F v :: l else none
       | none => none
     | none => none
 | .made i g x :: ps => bif b.testBit i then A8h P call ops H b ps else
     match H.objs.get g with
     | some y => bif B2a x y then (A8h P call ops H b ps).map fun l => .made i g x :: l else none
     | none => none
def A4e(P:Program)(call:A1d)(all:List Oper)(bs:List Nat):List Nat→List Pend→Fr→AH→Option (Fr×AH)
 | [],_,F,H=>some (F,H)
 | i :: rest,ps,F,H=>
  match all[i]? with
  | none=>none
  | some o=>match A3m all F o with
   | none=>none
   | some false=>A4e P call all bs rest ps (put F o.dst undef) H
   | some true=>match aop P call F H o with
    | none=>none
    | some (v,H')=>
     bif isEff o then match A8h P call all H' ((bs[i]?).getD 0) ps with
      | some ps'=>A4e P call all bs rest ps' (put F o.dst v) H'
      | none=>none
     else bif A2d o then match H'.objs.get H.next with
      | some x=>A4e P call all bs rest (.made i H.next x :: ps) (put F o.dst v) H'
      | none=>none
     else bif isRead o then A4e P call all bs rest (.read i F v :: ps) (put F o.dst v) H'
     else A4e P call all bs rest ps (put F o.dst v) H'
def region(P:Program)(call:A1d)(ops:List Oper)(draw:Bool)(F:Fr)(H:AH):Option (Fr×AH):=
 bif draw then let bs:=A6j ops;A4e P call ops bs (A53 ops bs) [] F H else A6o P call ops ops F H
def resultsA(P:Program)(F:Fr)(H:AH):List ResultVar→Option (List Value)
 | []=>some []
 | .tmp t :: rs=>(F.get t).bind fun v=>(resultsA P F H rs).map fun vs=>v :: vs
 | .cell a t :: rs=>(F.get a).bind fun p=>(A7e P t H p).bind fun v=>(resultsA P F H rs).map fun vs=>v :: vs
def one(vs:List Value):Value:=
 match vs with
 | [v]=>v
 | vs=>.tuple vs.toArray
def B3v:List Value→Nat→Fr→Fr
 | [],_,F=>F
 | v :: vs,i,F=>B3v vs (i+1) (F.set i v)
def enter(P:Program)(O:A1d)(go:List Item→Fr→AH→Option (Fr×AH))(f:FuncId)(args:List Value)(H:AH):Option (Value×AH):=
 match O f args H with
 | some r=>some r
 | none=>match P.funcs[f]? with
 | some fn=>match fn.body with
  | some c=>bif Nat.ble args.length fn.ntmps then match go [.code c] (B3v args 0 .nil) H with
   | some (F',H')=>(resultsA P F' H' fn.results.toList).map fun vs=>(one vs,H')
   | none=>none
   else none
  | none=>none
 | none=>none
def run(P:Program)(O:A1d):Nat→List Item→Fr→AH→Option (Fr×AH)
 | 0,_,_,_=>none
 | n+1,S,F,H=>
  match S with
  | []=>some (F,H)
  | .code c :: S=>match c with
   | .skip=>run P O n S F H
   | .seq a b=>run P O n (.code a :: .code b :: S) F H
   | .cond c a b=>match ev F c with
    | some (.bool true)=>run P O n (.code a :: S) F H
    | some (.bool false)=>run P O n (.code b :: S) F H
    | _=>none
   | .block id c=>run P O n (.code c :: .inBlock id :: S) F H
   | .loop c=>run P O n (.code c :: .inLoop c :: S) F H
   | .exit id=>match exitTo id S with
    | some S'=>run P O n S' F H
    | none=>none
   | .ret=>some (F,H)
   | .region _ ops draw=>
    match region P (enter P O (run P O n)) ops.toList draw F H with
    | some (F',H')=>run P O n S F' H'
    | none=>none
   | _=>none
  | .inBlock _ :: S=>run P O n S F H
  | .inLoop c :: S=>run P O n (.code c :: .inLoop c :: S) F H
  | _=>none
def mute:A1d:=fun _ _ _=>none
def call(P:Program)(O:A1d)(n:Nat)(f:FuncId)(args:List Value)(H:AH):Option (Value×AH):=enter P O (run P O n) f args H
def empty:AH:={ objs:=.nil,next:=0 }
def C58:Option (Value×AH)→Bool
 | some (.bool b,_)=>b
 | _=>false
end
theorem A1b(a b:Nat):Nat.beq a b=decide (a=b):=by
 cases h:Nat.beq a b
 ·have:=Nat.ne_of_beq_eq_false h;simp[this]
 ·have:=Nat.eq_of_beq_eq_true h;simp[this]
theorem A0c(a b:Nat):Nat.ble a b=decide (a≤b):=by
 cases h:Nat.ble a b
 ·have:¬ a≤b:=fun h'=>by rw[Nat.ble_eq_true_of_le h']at h;cases h
  simp[this]
 ·have:=Nat.le_of_ble_eq_true h;simp[this]
theorem A1j(a b:Nat):Nat.blt a b=decide (a<b):=by
 unfold Nat.blt;rw[A0c];simp[Nat.succ_le_iff]
namespace Tr
theorem recB{β:Type}(c:Bool)(a b:β):@Bool.rec (fun _=>β) b a c=bif c then a else b:=by cases c<;>rfl
def setF{α:Type}:Nat→Tr α→Nat→α→Tr α
 | 0,t,_,_=>t
 | f+1,.nil,n,x=>bif Nat.beq n 0 then .node (some x) .nil .nil else bif Nat.beq (n % 2) 1 then .node none (setF f .nil (n/2) x) .nil else .node none .nil (setF f .nil (n/2-1) x)
 | f+1,.node v l r,n,x=>bif Nat.beq n 0 then .node (some x) l r else bif Nat.beq (n % 2) 1 then .node v (setF f l (n/2) x) r else .node v l (setF f r (n/2-1) x)
theorem C37{α:Type}(n:Nat):(nil:Tr α).get n=none:=rfl
theorem B5s{α:Type}(v:Option α)(l r:Tr α)(n:Nat):(node v l r).get n=bif Nat.beq n 0 then v else bif Nat.beq (n % 2) 1 then l.get (n/2) else r.get (n/2-1):=by
 show @Bool.rec (fun _=>Option α) (@Bool.rec (fun _=>Option α) (r.get (n/2-1)) (l.get (n/2)) (Nat.beq (n % 2) 1)) v (Nat.beq n 0)=_;rw[recB,recB]
theorem C9d{α:Type}(x:α):∀(f n:Nat),n<f→path x f n=setF f .nil n x
 | 0,n,h=>absurd h (Nat.not_lt_zero n)
 | f+1,n,h=>by
  show @Bool.rec (fun _=>Tr α) (@Bool.rec (fun _=>Tr α) (.node none .nil (path x f (n/2-1))) (.node none (path x f (n/2)) .nil) (Nat.beq (n % 2) 1)) (.node (some x) .nil .nil) (Nat.beq n 0)=_;rw[recB,recB,setF];by_cases h0:n=0
  ·simp[h0]
  ·rw[C9d x f (n/2) (by omega),C9d x f (n/2-1) (by omega)]
theorem A3v{α:Type}(x:α):∀(f g:Nat) (t:Tr α) (n:Nat),n<f→n<g→setF f t n x=setF g t n x
 | 0,_,_,n,h,_=>absurd h (Nat.not_lt_zero n)
 | _,0,_,n,_,h=>absurd h (Nat.not_lt_zero n)
 | f+1,g+1,t,n,h,k=>by
  cases t with
  | nil=>
   simp only[setF];by_cases h0:n=0
   ·simp[h0]
   ·rw[A3v x f g .nil (n/2) (by omega) (by omega),A3v x f g .nil (n/2-1) (by omega) (by omega)]
  | node v l r=>
   simp only[setF];by_cases h0:n=0
   ·simp[h0]
   ·rw[A3v x f g l (n/2) (by omega) (by omega),A3v x f g r (n/2-1) (by omega) (by omega)]
theorem C3c{α:Type}(x:α):∀(t:Tr α) (n:Nat),setR x t n=setF (n+1) t n x
 | .nil,n=>C9d x (n+1) n (Nat.lt_succ_self n)
 | .node v l r,n=>by
  show @Bool.rec (fun _=>Tr α) (@Bool.rec (fun _=>Tr α) (.node v l (setR x r (n/2-1))) (.node v (setR x l (n/2)) r) (Nat.beq (n % 2) 1)) (.node (some x) l r) (Nat.beq n 0)=_;rw[recB,recB,setF];by_cases h0:n=0
  ·simp[h0]
  ·rw[C3c x l,C3c x r,A3v x (n/2+1) n l (n/2) (by omega) (by omega),A3v x (n/2-1+1) n r (n/2-1) (by omega) (by omega)]
theorem set_eq{α:Type}(t:Tr α)(n:Nat)(x:α):t.set n x=setF (n+1) t n x:=C3c x t n
theorem get_setF{α:Type}(x:α):∀(f:Nat) (t:Tr α) (n m:Nat),n<f→(setF f t n x).get m=if m=n then some x else t.get m:=by
 intro f
 induction f with
 | zero=>intro t n m h;omega
 | succ f ih=>
  intro t n m h;cases t with
  | nil=>
   simp only[setF,A1b,Bool.cond_decide];by_cases h0:n=0
   ·subst h0
    rw[if_pos rfl];simp only[C37,B5s,A1b,Bool.cond_decide];by_cases hm:m=0
    ·simp[hm]
    ·simp[hm]
   ·rw[if_neg h0]
    by_cases h1:n % 2=1
    ·rw[if_pos h1]
     simp only[C37,B5s,A1b,Bool.cond_decide];by_cases hm:m=0
     ·rw[if_pos hm,if_neg (by omega)]
     ·rw[if_neg hm]
      by_cases hm1:m % 2=1
      ·rw[if_pos hm1,ih _ _ _ (by omega)]
       by_cases he:m=n
       ·rw[if_pos (by omega),if_pos he]
       ·rw[if_neg (by omega),if_neg he];rfl
      ·rw[if_neg hm1,if_neg (by omega)]
    ·rw[if_neg h1]
     simp only[C37,B5s,A1b,Bool.cond_decide];by_cases hm:m=0
     ·rw[if_pos hm,if_neg (by omega)]
     ·rw[if_neg hm]
      by_cases hm1:m % 2=1
      ·rw[if_pos hm1,if_neg (by omega)]
      ·rw[if_neg hm1,ih _ _ _ (by omega)]
       by_cases he:m=n
       ·rw[if_pos (by omega),if_pos he]
       ·rw[if_neg (by omega),if_neg he];rfl
  | node v l r=>
   simp only[setF,A1b,Bool.cond_decide];by_cases h0:n=0
   ·subst h0
    rw[if_pos rfl];simp only[B5s,A1b,Bool.cond_decide];by_cases hm:m=0
    ·simp[hm]
    ·simp[hm]
   ·rw[if_neg h0]
    by_cases h1:n % 2=1
    ·rw[if_pos h1]
     simp only[B5s,A1b,Bool.cond_decide];by_cases hm:m=0
     ·rw[if_pos hm,if_neg (by omega),if_pos hm]
     ·rw[if_neg hm,if_neg hm]
      by_cases hm1:m % 2=1
      ·rw[if_pos hm1,if_pos hm1,ih _ _ _ (by omega)]
       by_cases he:m=n
       ·rw[if_pos (by omega),if_pos he]
       ·rw[if_neg (by omega),if_neg he]
      ·rw[if_neg hm1,if_neg hm1,if_neg (by omega)]
    ·rw[if_neg h1]
     simp only[B5s,A1b,Bool.cond_decide];by_cases hm:m=0
     ·rw[if_pos hm,if_neg (by omega),if_pos hm]
     ·rw[if_neg hm,if_neg hm]
      by_cases hm1:m % 2=1
      ·rw[if_pos hm1,if_pos hm1,if_neg (by omega)]
      ·rw[if_neg hm1,if_neg hm1,ih _ _ _ (by omega)]
       by_cases he:m=n
       ·rw[if_pos (by omega),if_pos he]
       ·rw[if_neg (by omega),if_neg he]
theorem get_set{α:Type}(t:Tr α)(n m:Nat)(x:α):(t.set n x).get m=if m=n then some x else t.get m:=by rw[set_eq];exact get_setF x _ t n m (Nat.lt_succ_self n)
theorem get_set_eq{α:Type}(t:Tr α)(n:Nat)(x:α):(t.set n x).get n=some x:=by rw[get_set,if_pos rfl]
theorem get_set_ne{α:Type}(t:Tr α){n m:Nat}(h:m≠n)(x:α):(t.set n x).get m=t.get m:=by rw[get_set,if_neg h]
end Tr
structure Loc where
 b:Nat
 s:Nat
 n:Nat
 e:Nat
abbrev Map:=Nat→Nat→Option Loc
def Map.le(ρ ρ':Map):Prop:=∀g k L,ρ g k=some L→ρ' g k=some L
theorem Map.le_refl(ρ:Map):ρ.le ρ:=fun _ _ _ h=>h
theorem Map.le_trans{a b c:Map}(h:a.le b)(k:b.le c):a.le c:=fun g i L e=>k g i L (h g i L e)
def CapRel(c c':Nat):Prop:=(c<big∧c'=c)∨(big≤c∧c-big≤c')
def PtrRel(ρ:Map)(a:Addr)(v:Value):Prop:=∃L k,a.spot=some k∧ρ a.block k=some L∧v=.pointer (some ⟨L.b,L.s+a.off,none⟩)
def SlcAt(ρ:Map)(a:Addr)(len cap:Nat)(v:Value):Prop:=
 ∃L k o cap',a.spot=some k∧ρ a.block k=some L∧v=.slice (some ⟨L.b,o,none⟩) len cap'∧len≤cap'∧CapRel cap cap'∧
  ((o=L.s+a.off∧o+cap'*L.e≤L.n)∨(len=0∧cap'=0))
def SlcRel(ρ:Map)(a:Addr)(len cap:Nat)(v:Value):Prop:=SlcAt ρ a len cap v∨(len=0∧cap=0∧∃ad,v=.slice (some ad) 0 0)
mutual
def VRel(ρ:Map):Value→Value→Prop
 | .bool b,v=>v=.bool b
 | .int k n,v=>v=.int k n
 | .float k b,v=>v=.float k b
 | .complex k a b,v=>v=.complex k a b
 | .string s,v=>v=.string s
 | .pointer none,v=>v=.pointer none
 | .pointer (some a),v=>PtrRel ρ a v
 | .slice none len cap,v=>len=0∧cap=0∧v=.slice none 0 0
 | .slice (some a) len cap,v=>SlcRel ρ a len cap v
 | .map none,v=>v=.map none
 | .map (some g),v=>∃L,ρ g 0=some L∧v=.map (some L.b)
 | .chan _,_=>False
 | .func fn ⟨x⟩ ⟨y⟩,v=>∃x' y',v=.func fn ⟨x'⟩ ⟨y'⟩∧VRels ρ x x'∧VRels ρ y y'
 | .nilFunc,v=>v=.nilFunc
 | .iface t x,v=>∃x',v=.iface t x'∧VRel ρ x x'
 | .nilIface,v=>v=.nilIface
 | .agg ⟨x⟩,v=>∃x',v=.agg ⟨x'⟩∧VRels ρ x x'
 | .tuple ⟨x⟩,v=>∃x',v=.tuple ⟨x'⟩∧VRels ρ x x'
def VRels(ρ:Map):List Value→List Value→Prop
 | [],l=>l=[]
 | v :: vs,l=>∃u us,l=u :: us∧VRel ρ v u∧VRels ρ vs us
end
mutual
theorem VRel.mono{ρ ρ':Map}(h:ρ.le ρ'):∀{v u:Value},VRel ρ v u→VRel ρ' v u
 | .bool _,_,r=>r
 | .int _ _,_,r=>r
 | .float _ _,_,r=>r
 | .complex _ _ _,_,r=>r
 | .string _,_,r=>r
 | .pointer none,_,r=>r
 | .pointer (some a),_,r=>by
  unfold VRel at r ⊢;obtain⟨L,k,h1,h2,h3⟩:=r;exact⟨L,k,h1,h _ _ _ h2,h3⟩
 | .slice none _ _,_,r=>r
 | .slice (some a) _ _,_,r=>by
  unfold VRel at r ⊢;rcases r with⟨L,k,o,c,h1,h2,h3⟩|r
  ·exact .inl ⟨L,k,o,c,h1,h _ _ _ h2,h3⟩
  ·exact .inr r
 | .map none,_,r=>r
 | .map (some g),_,r=>by
  unfold VRel at r ⊢;obtain⟨L,h1,h2⟩:=r;exact⟨L,h _ _ _ h1,h2⟩
 | .chan _,_,r=>r
 | .func fn ⟨x⟩ ⟨y⟩,_,r=>by
  unfold VRel at r ⊢;obtain⟨x',y',h1,h2,h3⟩:=r;exact⟨x',y',h1,VRels.mono h h2,VRels.mono h h3⟩
 | .nilFunc,_,r=>r
 | .iface t x,_,r=>by
  unfold VRel at r ⊢;obtain⟨x',h1,h2⟩:=r;exact⟨x',h1,VRel.mono h h2⟩
 | .nilIface,_,r=>r
 | .agg ⟨x⟩,_,r=>by
  unfold VRel at r ⊢;obtain⟨x',h1,h2⟩:=r;exact⟨x',h1,VRels.mono h h2⟩
 | .tuple ⟨x⟩,_,r=>by
  unfold VRel at r ⊢;obtain⟨x',h1,h2⟩:=r;exact⟨x',h1,VRels.mono h h2⟩
theorem VRels.mono{ρ ρ':Map}(h:ρ.le ρ'):∀{v u:List Value},VRels ρ v u→VRels ρ' v u
 | [],_,r=>r
 | v :: vs,_,r=>by
  unfold VRels at r ⊢;obtain⟨u,us,h1,h2,h3⟩:=r;exact⟨u,us,h1,VRel.mono h h2,VRels.mono h h3⟩
end
theorem VRels.length{ρ:Map}:∀{x y:List Value},VRels ρ x y→x.length=y.length
 | [],_,r=>by unfold VRels at r;rw[r]
 | v :: vs,_,r=>by
  unfold VRels at r;obtain⟨u,us,rfl,_,h⟩:=r;simp[VRels.length h]
theorem VRels.get{ρ:Map}:∀{x y:List Value},VRels ρ x y→∀{i:Nat} {v:Value},x[i]?=some v→∃u,y[i]?=some u∧VRel ρ v u
 | [],_,r,i,v,h=>by simp at h
 | a :: vs,_,r,i,v,h=>by
  unfold VRels at r;obtain⟨u,us,rfl,h1,h2⟩:=r;cases i with
  | zero=>simp at h;subst h;exact⟨u,rfl,h1⟩
  | succ i=>simpa using VRels.get h2 (i:=i) (by simpa using h)
theorem VRels.of{ρ:Map}:∀{x y:List Value},x.length=y.length→(∀(i:Nat) (v:Value),x[i]?=some v→∃u,y[i]?=some u∧VRel ρ v u)→VRels ρ x y
 | [],y,hl,_=>by unfold VRels;exact List.eq_nil_of_length_eq_zero (by simpa using hl.symm)
 | a :: vs,[],hl,_=>by simp at hl
 | a :: vs,u :: us,hl,h=>by
  unfold VRels;refine⟨u,us,rfl,?_,VRels.of (by simpa using hl) (fun i v hv=>?_)⟩
  ·obtain⟨u',h1,h2⟩:=h 0 a rfl
   simp at h1;subst h1;exact h2
  ·simpa using h (i+1) v (by simpa using hv)
theorem VRels.nil{ρ:Map}:VRels ρ [] []:=by unfold VRels;rfl
theorem VRels.cons{ρ:Map}{v u:Value}{x y:List Value}(h:VRel ρ v u)(k:VRels ρ x y):VRels ρ (v :: x) (u :: y):=by unfold VRels;exact⟨u,y,rfl,h,k⟩
theorem VRels.append{ρ:Map}:∀{x y x' y':List Value},VRels ρ x y→VRels ρ x' y'→VRels ρ (x++x') (y++y')
 | [],_,_,_,r,r'=>by unfold VRels at r;subst r;exact r'
 | v :: vs,_,_,_,r,r'=>by
  unfold VRels at r;obtain⟨u,us,rfl,h1,h2⟩:=r;exact VRels.cons h1 (VRels.append h2 r')
theorem VRels.take{ρ:Map}{x y:List Value}(r:VRels ρ x y)(n:Nat):VRels ρ (x.take n) (y.take n):=by
 refine VRels.of (by simp[r.length]) (fun i v h=>?_);rw[List.getElem?_take]at h;split at h
 ·rename_i hi
  obtain⟨u,h1,h2⟩:=r.get h;exact⟨u,by rw[List.getElem?_take,if_pos hi];exact h1,h2⟩
 ·cases h
theorem VRels.drop{ρ:Map}{x y:List Value}(r:VRels ρ x y)(n:Nat):VRels ρ (x.drop n) (y.drop n):=by
 refine VRels.of (by simp[r.length]) (fun i v h=>?_);rw[List.getElem?_drop]at h;obtain⟨u,h1,h2⟩:=r.get h;exact⟨u,by rw[List.getElem?_drop];exact h1,h2⟩
theorem VRels.set{ρ:Map}{x y:List Value}(r:VRels ρ x y)(n:Nat){v u:Value}(h:VRel ρ v u):VRels ρ (x.set n v) (y.set n u):=by
 refine VRels.of (by simp[r.length]) (fun i w hw=>?_);rw[List.getElem?_set]at hw;split at hw
 ·rename_i hi
  split at hw
  ·injection hw with hw
   subst hw;refine⟨u,?_,h⟩;rw[List.getElem?_set,if_pos hi,if_pos (by rw[←r.length];assumption)]
  ·cases hw
 ·rename_i hi
  obtain⟨u',h1,h2⟩:=r.get hw;exact⟨u',by rw[List.getElem?_set,if_neg hi];exact h1,h2⟩
theorem VRel.cells{ρ:Map}{v u:Value}(h:VRel ρ v u):VRels ρ (A6a v) u.cells.toList:=by
 cases v with
 | agg x=>
  obtain⟨x⟩:=x;unfold VRel at h;obtain⟨x',rfl,h⟩:=h;exact h
 | tuple x=>
  obtain⟨x⟩:=x;have h':=h;unfold VRel at h;obtain⟨x',rfl,h⟩:=h;exact VRels.cons h' VRels.nil
 | pointer a=>
  cases a with
  | none=>have h':=h;unfold VRel at h;subst h;exact VRels.cons h' VRels.nil
  | some a=>have h':=h;unfold VRel at h;obtain⟨L,k,_,_,rfl⟩:=h;exact VRels.cons h' VRels.nil
 | slice a m c=>
  cases a with
  | none=>have h':=h;unfold VRel at h;obtain⟨_,_,rfl⟩:=h;exact VRels.cons h' VRels.nil
  | some a=>have h':=h;unfold VRel at h;rcases h with⟨L,k,o,c,_,_,rfl,_⟩|⟨_,_,ad,rfl⟩<;>exact VRels.cons h' VRels.nil
 | map a=>
  cases a with
  | none=>have h':=h;unfold VRel at h;subst h;exact VRels.cons h' VRels.nil
  | some a=>have h':=h;unfold VRel at h;obtain⟨L,_,rfl⟩:=h;exact VRels.cons h' VRels.nil
 | chan a=>unfold VRel at h;exact h.elim
 | func f x y=>
  obtain⟨x⟩:=x;obtain⟨y⟩:=y;have h':=h;unfold VRel at h;obtain⟨_,_,rfl,_⟩:=h;exact VRels.cons h' VRels.nil
 | iface t x=>have h':=h;unfold VRel at h;obtain⟨_,rfl,_⟩:=h;exact VRels.cons h' VRels.nil
 | _=>have h':=h;unfold VRel at h;subst h;exact VRels.cons h' VRels.nil
theorem VRel.isCell{ρ:Map}{v u:Value}(h:VRel ρ v u)(hv:isCell v=true):u.oneCell'=true∧A6a v=[v]∧u.cells=#[u]:=by
 cases v with
 | agg x=>simp[Sh.isCell]at hv
 | tuple x=>simp[Sh.isCell]at hv
 | pointer a=>
  cases a with
  | none=>unfold VRel at h;subst h;exact⟨rfl,rfl,rfl⟩
  | some a=>unfold VRel at h;obtain⟨L,k,_,_,rfl⟩:=h;exact⟨rfl,rfl,rfl⟩
 | slice a m c=>
  cases a with
  | none=>unfold VRel at h;obtain⟨_,_,rfl⟩:=h;exact⟨rfl,rfl,rfl⟩
  | some a=>unfold VRel at h;rcases h with⟨L,k,o,c,_,_,rfl,_⟩|⟨_,_,ad,rfl⟩<;>exact⟨rfl,rfl,rfl⟩
 | map a=>
  cases a with
  | none=>unfold VRel at h;subst h;exact⟨rfl,rfl,rfl⟩
  | some a=>unfold VRel at h;obtain⟨L,_,rfl⟩:=h;exact⟨rfl,rfl,rfl⟩
 | chan a=>unfold VRel at h;exact h.elim
 | func f x y=>
  obtain⟨x⟩:=x;obtain⟨y⟩:=y;unfold VRel at h;obtain⟨_,_,rfl,_⟩:=h;exact⟨rfl,rfl,rfl⟩
 | iface t x=>unfold VRel at h;obtain⟨_,rfl,_⟩:=h;exact⟨rfl,rfl,rfl⟩
 | _=>unfold VRel at h;subst h;exact⟨rfl,rfl,rfl⟩
def RowAt(B:Nat)(ρ:Map)(w:World)(L:Loc)(r:Row)(rw:Bool):Prop:=
 ∃c el fr,w.heap[L.b]?=some (.cells c el fr)∧c.size=L.n∧L.e=r.esz∧L.s+r.vals.length≤L.n∧
  (∀(i:Nat) (v:Value),r.vals[i]?=some v→isCell v=true∧∃u,c[L.s+i]?=some u∧VRel ρ v u)∧
  (rw=true→B≤L.b∧∀i,i<L.n→¬(fr.1≤i∧i<fr.2))
def MapAt(B:Nat)(ρ:Map)(w:World)(L:Loc)(es:List (Value×Value)):Prop:=
 ∃es' clock,w.heap[L.b]?=some (.map es' clock)∧B≤L.b∧VRels ρ (es.map (·.1)) (es'.toList.map (·.key))∧VRels ρ (es.map (·.2)) (es'.toList.map (·.val))
structure HRel(B:Nat)(ρ:Map)(H:AH)(w:World):Prop where
 base:B≤w.heap.size
 rows:∀g rs rw,H.objs.get g=some (.rows rs rw)→∀(k:Nat) r L,rs[k]?=some r→r.ok=true→ρ g k=some L→RowAt B ρ w L r rw
 apart:∀g rs rw g' rs' rw',H.objs.get g=some (.rows rs rw)→H.objs.get g'=some (.rows rs' rw')→(rw=true∨rw'=true)→
  ∀(k k':Nat) r r' L L',rs[k]?=some r→rs'[k']?=some r'→ρ g k=some L→ρ g' k'=some L'→L.b=L'.b→g=g'∧(r.ok=true→r'.ok=true→L.s+r'.pos=L'.s+r.pos)
 maps:∀g es L,H.objs.get g=some (.map es)→ρ g 0=some L→MapAt B ρ w L es
 mapsApart:∀g g' es es' L L',H.objs.get g=some (.map es)→H.objs.get g'=some (.map es')→ρ g 0=some L→ρ g' 0=some L'→L.b=L'.b→g=g'
 mixed:∀g rs g' es k L L',H.objs.get g=some (.rows rs true)→H.objs.get g'=some (.map es)→ρ g k=some L→ρ g' 0=some L'→L.b≠L'.b
 lt:∀g k L,ρ g k=some L→g<H.next∧L.b<w.heap.size
 inH:∀g o,H.objs.get g=some o→g<H.next
 short:∀g rs rw,H.objs.get g=some (.rows rs rw)→∀k L,ρ g k=some L→k<rs.length
 only:∀g es,H.objs.get g=some (.map es)→∀k L,ρ g k=some L→k=0
structure Trans(B n:Nat)(ρ:Map)(w:World)(ρ':Map)(w':World):Prop where
 le:ρ.le ρ'
 ext:∀g k L,ρ' g k=some L→ρ g k=some L∨w.heap.size≤L.b∨∃g' k' L',ρ g' k'=some L'∧L'.b=L.b
 grows:∀g k L,ρ' g k=some L→ρ g k=some L∨n≤g∨∃k' L',ρ g k'=some L'
 os:w'.os=w.os
 tape:w'.tape=w.tape
 output:w'.output=w.output
 size:w.heap.size≤w'.heap.size
 keep:∀b,b<w.heap.size→(b<B∨∀g k L,ρ g k=some L→L.b≠b)→w'.heap[b]?=w.heap[b]?
theorem Trans.refl(B n:Nat)(ρ:Map)(w:World):Trans B n ρ w ρ w:=
 ⟨Map.le_refl _,fun _ _ _ h=>.inl h,fun _ _ _ h=>.inl h,rfl,rfl,rfl,Nat.le_refl _,fun _ _ _=>rfl⟩
theorem Trans.trans{B n n':Nat}{ρ ρ1 ρ2:Map}{w w1 w2:World}(h:Trans B n ρ w ρ1 w1)(k:Trans B n' ρ1 w1 ρ2 w2)(hn:n≤n':=by exact Nat.le_refl _):Trans B n ρ w ρ2 w2 where
 le:=Map.le_trans h.le k.le
 ext g i L e:=by
  rcases k.ext g i L e with e|e|⟨g',k',L',e,hb⟩
  ·exact h.ext g i L e
  ·exact .inr (.inl (Nat.le_trans h.size e))
  ·rcases h.ext _ _ _ e with e|e|⟨g2,k2,L2,e,hb2⟩
   ·exact .inr (.inr ⟨_,_,_,e,hb⟩)
   ·exact .inr (.inl (by omega))
   ·exact .inr (.inr ⟨_,_,_,e,hb2.trans hb⟩)
 grows g i L e:=by
  rcases k.grows g i L e with e|e|⟨k',L',e⟩
  ·exact h.grows g i L e
  ·exact .inr (.inl (Nat.le_trans hn e))
  ·rcases h.grows _ _ _ e with e|e|⟨k2,L2,e⟩
   ·exact .inr (.inr ⟨_,_,e⟩)
   ·exact .inr (.inl e)
   ·exact .inr (.inr ⟨_,_,e⟩)
 os:=k.os.trans h.os
 tape:=k.tape.trans h.tape
 output:=k.output.trans h.output
 size:=Nat.le_trans h.size k.size
 keep b hb hn:=by
  rw[k.keep b (Nat.lt_of_lt_of_le hb h.size) ?_]
  ·exact h.keep b hb hn
  ·rcases hn with hn|hn
   ·exact .inl hn
   ·refine .inr fun g i L e hL=>?_
    rcases h.ext g i L e with e|e|⟨g',k',L',e,hb2⟩
    ·exact hn _ _ _ e hL
    ·omega
    ·exact hn _ _ _ e (hb2.trans hL)
theorem Trans.weak{B n n':Nat}{ρ ρ1:Map}{w w1:World}(h:Trans B n' ρ w ρ1 w1)(hn:n≤n'):Trans B n ρ w ρ1 w1:=
 ⟨h.le,h.ext,fun g k L e=>by rcases h.grows g k L e with e|e|e;exact .inl e;exact .inr (.inl (Nat.le_trans hn e));exact .inr (.inr e),h.os,h.tape,h.output,h.size,h.keep⟩
theorem HRel.drew{B:Nat}{ρ:Map}{H:AH}{w:World}(h:HRel B ρ H w)(n:Nat):HRel B ρ H { w with drawn:=n }:=
 ⟨h.base,h.rows,h.apart,h.maps,h.mapsApart,h.mixed,h.lt,h.inH,h.short,h.only⟩
theorem Trans.drew{B m:Nat}{ρ ρ':Map}{w w':World}(h:Trans B m ρ w ρ' w')(n:Nat):Trans B m ρ w ρ' { w' with drawn:=n }:=
 ⟨h.le,h.ext,h.grows,h.os,h.tape,h.output,h.size,h.keep⟩
theorem Trans.below{B n:Nat}{ρ ρ':Map}{w w':World}(h:Trans B n ρ w ρ' w')(hB:B≤w.heap.size):Go.RowKit.Below B w w':=
 ⟨h.os,h.tape,h.output,h.size,fun k hk=>h.keep k (Nat.lt_of_lt_of_le hk hB) (.inl hk)⟩
theorem RowAt.mono{B:Nat}{ρ ρ':Map}{w w':World}{L:Loc}{r:Row}{rw:Bool}(hle:ρ.le ρ')(hb:w'.heap[L.b]?=w.heap[L.b]?)(h:RowAt B ρ w L r rw):RowAt B ρ' w' L r rw:=by
 obtain⟨c,el,fr,h1,h2,h3,h4,h5,h6⟩:=h;exact⟨c,el,fr,hb.trans h1,h2,h3,h4,fun i v hv=>⟨(h5 i v hv).1,by obtain⟨u,hu,hr⟩:=(h5 i v hv).2;exact⟨u,hu,hr.mono hle⟩⟩,h6⟩
theorem MapAt.mono{B:Nat}{ρ ρ':Map}{w w':World}{L:Loc}{es:List (Value×Value)}(hle:ρ.le ρ')(hb:w'.heap[L.b]?=w.heap[L.b]?)(h:MapAt B ρ w L es):MapAt B ρ' w' L es:=by
 obtain⟨c,cl,h1,h2,h3,h4⟩:=h;exact⟨c,cl,hb.trans h1,h2,h3.mono hle,h4.mono hle⟩
def Map.add(ρ:Map)(g k:Nat)(L:Loc):Map:=fun g' k'=>if g'=g∧k'=k then some L else ρ g' k'
theorem Map.add_same(ρ:Map)(g k:Nat)(L:Loc):ρ.add g k L g k=some L:=by simp[Map.add]
theorem Map.add_other(ρ:Map){g k g' k':Nat}(L:Loc)(h:¬(g'=g∧k'=k)):ρ.add g k L g' k'=ρ g' k':=by simp only[Map.add];rw[if_neg h]
theorem Map.le_add{ρ:Map}{g k:Nat}{L:Loc}(h:ρ g k=none):ρ.le (ρ.add g k L):=by
 intro g' k' L' e;rw[Map.add_other]
 ·exact e
 ·rintro⟨rfl,rfl⟩;rw[h]at e;cases e
theorem A2q(w:World)(o:Obj){b:Nat}(h:b<w.heap.size):(w.alloc o).heap[b]?=w.heap[b]?:=by
 show (w.heap.push o)[b]?=_;rw[Array.getElem?_push,if_neg (by omega)]
theorem B8t(w:World)(o:Obj):(w.alloc o).heap[w.heap.size]?=some o:=by
 show (w.heap.push o)[_]?=_;simp
section
variable {B:Nat} {ρ:Map} {H:AH} {w:World}
theorem HRel.none_new(h:HRel B ρ H w)(k:Nat):ρ H.next k=none:=by
 cases hh:ρ H.next k with
 | none=>rfl
 | some L=>have:=(h.lt _ _ _ hh).1;omega
theorem HRel.get_next(h:HRel B ρ H w):H.objs.get H.next=none:=by
 cases hh:H.objs.get H.next with
 | none=>rfl
 | some o=>have:=h.inH _ _ hh;omega
theorem HRel.reg(h:HRel B ρ H w)(o:AObj):HRel B ρ (H.push o).2 w:=by
 have hget:∀g,(H.push o).2.objs.get g=if g=H.next then some o else H.objs.get g:=fun g=>Tr.get_set _ _ _ _;have hne:∀{g k L},ρ g k=some L→g≠H.next:=by
  rintro g k L e rfl;rw[h.none_new]at e;cases e
 refine⟨h.base,?_,?_,?_,?_,?_,?_,?_,?_,?_⟩
 ·intro g rs rw hg k r L hk hok hL
  rw[hget,if_neg (hne hL)]at hg;exact h.rows g rs rw hg k r L hk hok hL
 ·intro g rs rw g' rs' rw' hg hg' hrw k k' r r' L1 L2 hk hk' hL1 hL2 hb
  rw[hget,if_neg (hne hL1)]at hg;rw[hget,if_neg (hne hL2)]at hg';exact h.apart g rs rw g' rs' rw' hg hg' hrw k k' r r' L1 L2 hk hk' hL1 hL2 hb
 ·intro g es L hg hL
  rw[hget,if_neg (hne hL)]at hg;exact h.maps g es L hg hL
 ·intro g g' es es' L1 L2 hg hg' hL1 hL2 hb
  rw[hget,if_neg (hne hL1)]at hg;rw[hget,if_neg (hne hL2)]at hg';exact h.mapsApart g g' es es' L1 L2 hg hg' hL1 hL2 hb
 ·intro g rs g' es k L1 L2 hg hg' hL1 hL2
  rw[hget,if_neg (hne hL1)]at hg;rw[hget,if_neg (hne hL2)]at hg';exact h.mixed g rs g' es k L1 L2 hg hg' hL1 hL2
 ·intro g k L e
  have:=h.lt _ _ _ e;exact⟨Nat.lt_succ_of_lt this.1,this.2⟩
 ·intro g x hg
  rw[hget]at hg;by_cases hgn:g=H.next
  ·rw[hgn];exact Nat.lt_succ_self _
  ·rw[if_neg hgn]at hg;exact Nat.lt_succ_of_lt (h.inH g x hg)
 ·intro g rs rw hg k L e
  rw[hget,if_neg (hne e)]at hg;exact h.short g rs rw hg k L e
 ·intro g es hg k L e
  rw[hget,if_neg (hne e)]at hg;exact h.only g es hg k L e
theorem HRel.late_row(h:HRel B ρ H w)(g esz:Nat)(vs:List Value)(hg0:H.objs.get g=some (.rows [{ pos:=0,esz,vals:=vs,ok:=true }] true))(hn:∀k,ρ g k=none)
  (c:Array Value) (el:TypeId) (fr:Nat×Nat) (hc:∀v∈vs,isCell v=true) (hl:vs.length≤c.size)
  (hr:∀(i:Nat) (v:Value),vs[i]?=some v→∃u,c[i]?=some u∧VRel ρ v u) (hf:∀i,i<c.size→¬(fr.1≤i∧i<fr.2)):
  let L:Loc:=⟨w.heap.size,0,c.size,esz⟩
  HRel B (ρ.add g 0 L) H (w.alloc (.cells c el fr))∧Trans B g ρ w (ρ.add g 0 L) (w.alloc (.cells c el fr))∧(ρ.add g 0 L) g 0=some L:=by
 intro L
 revert hg0 hn
 generalize g=g0;intro hg0 hn;have hle:ρ.le (ρ.add g0 0 L):=Map.le_add (hn 0);have hold:∀{g k L'},g≠g0→(ρ.add g0 0 L) g k=some L'→ρ g k=some L':=by
  intro g k L' hg e
  rwa [Map.add_other _ _ (fun x=>hg x.1)]at e
 have hnew:∀{k L'},(ρ.add g0 0 L) g0 k=some L'→k=0∧L'=L:=by
  intro k L' e;by_cases hk:k=0
  ·subst hk;rw[Map.add_same]at e;injection e with e;exact⟨rfl,e.symm⟩
  ·rw[Map.add_other _ _ (fun x=>hk x.2),hn]at e;cases e
 refine⟨⟨?_,?_,?_,?_,?_,?_,?_,h.inH,?_,?_⟩,⟨hle,?_,fun g' k' L' e=>by by_cases x:g'=g0;exact .inr (.inl (Nat.le_of_eq x.symm));exact .inl (hold x e),rfl,rfl,rfl,by simp,fun b hb _=>A2q w _ hb⟩,Map.add_same _ _ _ _⟩
 ·have:=h.base;simp;omega
 ·intro g rs rw hg k r L' hk hok hL
  by_cases hgn:g=g0
  ·subst hgn
   rw[hg0]at hg;injection hg with hg
   injection hg with hg1 hg2
   subst hg1 hg2;obtain⟨rfl,rfl⟩:=hnew hL;simp at hk;subst hk;refine⟨c,el,fr,B8t w _,rfl,rfl,by simpa [L] using hl,fun i v hv=>⟨hc v (List.mem_of_getElem? hv),?_⟩,fun _=>⟨h.base,hf⟩⟩;obtain⟨u,hu,hv⟩:=hr i v hv;exact⟨u,by simpa [L] using hu,hv.mono hle⟩
  ·have hL':=hold hgn hL
   exact(h.rows g rs rw hg k r L' hk hok hL').mono hle (A2q w _ (h.lt _ _ _ hL').2)
 ·intro g rs rw g' rs' rw' hg hg' hrw k k' r r' L1 L2 hk hk' hL1 hL2 hb
  by_cases hgn:g=g0
  ·subst hgn
   obtain⟨rfl,rfl⟩:=hnew hL1;by_cases hgn':g'=g
   ·subst hgn'
    obtain⟨rfl,rfl⟩:=hnew hL2;rw[hg0]at hg hg';injection hg with hg;injection hg' with hg'
    injection hg with e1 _;injection hg' with e2 _
    subst e1 e2;simp at hk hk';subst hk hk';exact⟨rfl,fun _ _=>rfl⟩
   ·have:=(h.lt _ _ _ (hold hgn' hL2)).2
    simp[L]at hb;omega
  ·by_cases hgn':g'=g0
   ·subst hgn'
    obtain⟨rfl,rfl⟩:=hnew hL2;have:=(h.lt _ _ _ (hold hgn hL1)).2;simp[L]at hb;omega
   ·exact h.apart g rs rw g' rs' rw' hg hg' hrw k k' r r' L1 L2 hk hk' (hold hgn hL1) (hold hgn' hL2) hb
 ·intro g es L' hg hL
  by_cases hgn:g=g0
  ·subst hgn;rw[hg0]at hg;cases hg
  ·have hL':=hold hgn hL
   exact(h.maps g es L' hg hL').mono hle (A2q w _ (h.lt _ _ _ hL').2)
 ·intro g g' es es' L1 L2 hg hg' hL1 hL2 hb
  by_cases hgn:g=g0
  ·subst hgn;rw[hg0]at hg;cases hg
  ·by_cases hgn':g'=g0
   ·subst hgn';rw[hg0]at hg';cases hg'
   ·exact h.mapsApart g g' es es' L1 L2 hg hg' (hold hgn hL1) (hold hgn' hL2) hb
 ·intro g rs g' es k L1 L2 hg hg' hL1 hL2
  by_cases hgn':g'=g0
  ·subst hgn';rw[hg0]at hg';cases hg'
  ·by_cases hgn:g=g0
   ·subst hgn
    obtain⟨rfl,rfl⟩:=hnew hL1;have:=(h.lt _ _ _ (hold hgn' hL2)).2;simp[L];omega
   ·exact h.mixed g rs g' es k L1 L2 hg hg' (hold hgn hL1) (hold hgn' hL2)
 ·intro g k L' e
  by_cases hgn:g=g0
  ·subst hgn
   obtain⟨rfl,rfl⟩:=hnew e;exact⟨h.inH _ _ hg0,by simp[L]⟩
  ·have:=h.lt _ _ _ (hold hgn e)
   exact⟨this.1,by simp;omega⟩
 ·intro g rs rw hg k L' e
  by_cases hgn:g=g0
  ·subst hgn
   rw[hg0]at hg;injection hg with hg
   injection hg with hg _
   subst hg;obtain⟨rfl,_⟩:=hnew e;simp
  ·exact h.short g rs rw hg k L' (hold hgn e)
 ·intro g es hg k L' e
  by_cases hgn:g=g0
  ·subst hgn;rw[hg0]at hg;cases hg
  ·exact h.only g es hg k L' (hold hgn e)
 ·intro g k L' e
  by_cases hgn:g=g0
  ·subst hgn
   obtain⟨rfl,rfl⟩:=hnew e;exact .inr (.inl (Nat.le_refl _))
  ·exact .inl (hold hgn e)
theorem HRel.late_map(h:HRel B ρ H w)(g:Nat)(hg0:H.objs.get g=some (.map []))(hn:∀k,ρ g k=none):
  let L:Loc:=⟨w.heap.size,0,0,0⟩
  HRel B (ρ.add g 0 L) H (w.alloc (.map #[] 0))∧Trans B g ρ w (ρ.add g 0 L) (w.alloc (.map #[] 0))∧(ρ.add g 0 L) g 0=some L:=by
 intro L
 revert hg0 hn
 generalize g=g0;intro hg0 hn;have hle:ρ.le (ρ.add g0 0 L):=Map.le_add (hn 0);have hold:∀{g k L'},g≠g0→(ρ.add g0 0 L) g k=some L'→ρ g k=some L':=by
  intro g k L' hg e
  rwa [Map.add_other _ _ (fun x=>hg x.1)]at e
 have hnew:∀{k L'},(ρ.add g0 0 L) g0 k=some L'→k=0∧L'=L:=by
  intro k L' e;by_cases hk:k=0
  ·subst hk;rw[Map.add_same]at e;injection e with e;exact⟨rfl,e.symm⟩
  ·rw[Map.add_other _ _ (fun x=>hk x.2),hn]at e;cases e
 refine⟨⟨?_,?_,?_,?_,?_,?_,?_,h.inH,?_,?_⟩,⟨hle,?_,fun g' k' L' e=>by by_cases x:g'=g0;exact .inr (.inl (Nat.le_of_eq x.symm));exact .inl (hold x e),rfl,rfl,rfl,by simp,fun b hb _=>A2q w _ hb⟩,Map.add_same _ _ _ _⟩
 ·have:=h.base;simp;omega
 ·intro g rs rw hg k r L' hk hok hL
  by_cases hgn:g=g0
  ·subst hgn;rw[hg0]at hg;cases hg
  ·have hL':=hold hgn hL
   exact(h.rows g rs rw hg k r L' hk hok hL').mono hle (A2q w _ (h.lt _ _ _ hL').2)
 ·intro g rs rw g' rs' rw' hg hg' hrw k k' r r' L1 L2 hk hk' hL1 hL2 hb
  by_cases hgn:g=g0
  ·subst hgn;rw[hg0]at hg;cases hg
  ·by_cases hgn':g'=g0
   ·subst hgn';rw[hg0]at hg';cases hg'
   ·exact h.apart g rs rw g' rs' rw' hg hg' hrw k k' r r' L1 L2 hk hk' (hold hgn hL1) (hold hgn' hL2) hb
 ·intro g es L' hg hL
  by_cases hgn:g=g0
  ·subst hgn
   rw[hg0]at hg;injection hg with hg
   injection hg with hg
   subst hg;obtain⟨_,rfl⟩:=hnew hL;exact⟨#[],0,B8t w _,h.base,VRels.nil,VRels.nil⟩
  ·have hL':=hold hgn hL
   exact(h.maps g es L' hg hL').mono hle (A2q w _ (h.lt _ _ _ hL').2)
 ·intro g g' es es' L1 L2 hg hg' hL1 hL2 hb
  by_cases hgn:g=g0
  ·subst hgn
   obtain⟨_,rfl⟩:=hnew hL1;by_cases hgn':g'=g
   ·exact hgn'.symm
   ·have:=(h.lt _ _ _ (hold hgn' hL2)).2
    simp[L]at hb;omega
  ·by_cases hgn':g'=g0
   ·subst hgn'
    obtain⟨_,rfl⟩:=hnew hL2;have:=(h.lt _ _ _ (hold hgn hL1)).2;simp[L]at hb;omega
   ·exact h.mapsApart g g' es es' L1 L2 hg hg' (hold hgn hL1) (hold hgn' hL2) hb
 ·intro g rs g' es k L1 L2 hg hg' hL1 hL2
  by_cases hgn:g=g0
  ·subst hgn;rw[hg0]at hg;cases hg
  ·by_cases hgn':g'=g0
   ·subst hgn'
    obtain⟨_,rfl⟩:=hnew hL2;have:=(h.lt _ _ _ (hold hgn hL1)).2;simp[L];omega
   ·exact h.mixed g rs g' es k L1 L2 hg hg' (hold hgn hL1) (hold hgn' hL2)
 ·intro g k L' e
  by_cases hgn:g=g0
  ·subst hgn
   obtain⟨rfl,rfl⟩:=hnew e;exact⟨h.inH _ _ hg0,by simp[L]⟩
  ·have:=h.lt _ _ _ (hold hgn e)
   exact⟨this.1,by simp;omega⟩
 ·intro g rs rw hg k L' e
  by_cases hgn:g=g0
  ·subst hgn;rw[hg0]at hg;cases hg
  ·exact h.short g rs rw hg k L' (hold hgn e)
 ·intro g es hg k L' e
  by_cases hgn:g=g0
  ·subst hgn
   exact(hnew e).1
  ·exact h.only g es hg k L' (hold hgn e)
 ·intro g k L' e
  by_cases hgn:g=g0
  ·subst hgn
   obtain⟨rfl,rfl⟩:=hnew e;exact .inr (.inl (Nat.le_refl _))
  ·exact .inl (hold hgn e)
theorem HRel.new_row(h:HRel B ρ H w)(esz:Nat)(vs:List Value)(c:Array Value)(el:TypeId)(fr:Nat×Nat)(hc:∀v∈vs,isCell v=true)(hl:vs.length≤c.size)
  (hr:∀(i:Nat) (v:Value),vs[i]?=some v→∃u,c[i]?=some u∧VRel ρ v u) (hf:∀i,i<c.size→¬(fr.1≤i∧i<fr.2)):
  let L:Loc:=⟨w.heap.size,0,c.size,esz⟩
  HRel B (ρ.add H.next 0 L) (H.new esz vs).2 (w.alloc (.cells c el fr))∧Trans B H.next ρ w (ρ.add H.next 0 L) (w.alloc (.cells c el fr))∧(ρ.add H.next 0 L) H.next 0=some L:=
 (h.reg (.rows [{ pos:=0,esz,vals:=vs,ok:=true }] true)).late_row H.next esz vs (Tr.get_set_eq _ _ _) (h.none_new) c el fr hc hl hr hf
theorem HRel.new_map(h:HRel B ρ H w):
  let L:Loc:=⟨w.heap.size,0,0,0⟩
  HRel B (ρ.add H.next 0 L) (H.push (.map [])).2 (w.alloc (.map #[] 0))∧Trans B H.next ρ w (ρ.add H.next 0 L) (w.alloc (.map #[] 0))∧(ρ.add H.next 0 L) H.next 0=some L:=
 (h.reg (.map [])).late_map H.next (Tr.get_set_eq _ _ _) (h.none_new)
theorem AH.row?_some{H:AH}{a:Addr}{r:Row}(h:H.row? a=some r):∃rs rw k,H.objs.get a.block=some (.rows rs rw)∧a.spot=some k∧rs[k]?=some r∧r.ok=true:=by
 unfold AH.row? at h;split at h
 ·rename_i rs rw k h1 h2
  split at h
  ·rename_i r' h3
   cases hok:r'.ok with
   | true=>rw[hok]at h;injection h with h;subst h;exact⟨rs,rw,k,h1,h2,h3,hok⟩
   | false=>rw[hok]at h;cases h
  ·cases h
 ·cases h
theorem HRel.row(h:HRel B ρ H w){a:Addr}{r:Row}{k:Nat}{L:Loc}(hr:H.row? a=some r)(hs:a.spot=some k)(hL:ρ a.block k=some L):∃rw,RowAt B ρ w L r rw:=by
 obtain⟨rs,rw,k',h1,h2,h3,h4⟩:=AH.row?_some hr;rw[hs]at h2;injection h2 with h2
 subst h2;exact⟨rw,h.rows _ _ _ h1 _ _ _ h3 h4 hL⟩
theorem cell_of{w:World}{b:Nat}{c:Array Value}{el:TypeId}{fr:Nat×Nat}(h:w.heap[b]?=some (.cells c el fr))(i:Nat):w.cell? ⟨b,i,none⟩=c[i]?:=by
 unfold World.cell?;rw[h];simp
theorem HRel.cell(h:HRel B ρ H w){a:Addr}{v:Value}{k:Nat}{L:Loc}(hv:H.cell a=some v)(hs:a.spot=some k)(hL:ρ a.block k=some L):
  isCell v=true∧∃u,w.cell? ⟨L.b,L.s+a.off,none⟩=some u∧VRel ρ v u:=by
 unfold AH.cell at hv;split at hv
 ·rename_i r hr
  obtain⟨rw,c,el,fr,h1,h2,h3,h4,h5,h6⟩:=h.row hr hs hL;obtain⟨hc,u,hu,huv⟩:=h5 _ _ hv;exact⟨hc,u,by rw[cell_of h1];exact hu,huv⟩
 ·cases hv
theorem A6k{l x:List Value}{o n:Nat}(h:A4m l o n=some x):o+n≤l.length∧x=(l.drop o).take n∧x.length=n:=by
 unfold A4m at h;rw[A0c,Bool.cond_decide]at h;split at h
 ·rename_i hle
  injection h with h
  subst h;refine⟨hle,rfl,?_⟩;simp;omega
 ·cases h
theorem HRel.cells(h:HRel B ρ H w){a:Addr}{vs:List Value}{n k:Nat}{L:Loc}(hv:H.cells a n=some vs)(hs:a.spot=some k)(hL:ρ a.block k=some L):
  vs.length=n∧(∀v∈vs,isCell v=true)∧∃us:List Value,VRels ρ vs us∧∀(j:Nat) (u:Value),us[j]?=some u→w.cell? ⟨L.b,L.s+a.off+j,none⟩=some u:=by
 unfold AH.cells at hv;split at hv
 ·rename_i r hr
  obtain⟨rw,c,el,fr,h1,h2,h3,h4,h5,h6⟩:=h.row hr hs hL;obtain⟨hle,hx,hxl⟩:=A6k hv;have hget:∀(j:Nat) (v:Value),vs[j]?=some v→isCell v=true∧∃u,c[L.s+a.off+j]?=some u∧VRel ρ v u:=by
   intro j v hj;rw[hx,List.getElem?_take]at hj;split at hj
   ·rw[List.getElem?_drop]at hj
    have:=h5 _ _ hj
    rwa [←Nat.add_assoc]at this
   ·cases hj
  refine⟨hxl,fun v hv=>?_,(c.toList.drop (L.s+a.off)).take n,VRels.of ?_ ?_,?_⟩
  ·obtain⟨j,hj⟩:=List.mem_iff_getElem?.1 hv
   exact(hget j v hj).1
  ·rw[hxl];simp;omega
  ·intro j v hj
   obtain⟨_,u,hu,huv⟩:=hget j v hj;have hjn:j<n:=by
    have:=(List.getElem?_eq_some_iff.1 hj).1;omega
   exact⟨u,by rw[List.getElem?_take,if_pos hjn,List.getElem?_drop];simpa using hu,huv⟩
  ·intro j u hj
   rw[List.getElem?_take]at hj;split at hj
   ·rw[List.getElem?_drop]at hj
    rw[cell_of h1]
    simpa using hj
   ·cases hj
 ·cases hv
end
theorem A6f:∀(vs l:List Value) (o:Nat),(setCells l o vs).length=l.length
 | [],l,o=>rfl
 | v :: vs,l,o=>by simp only[setCells];rw[A6f vs];simp
theorem A6g:∀(vs l:List Value) (o i:Nat),o+vs.length≤l.length→(setCells l o vs)[i]?=if o≤i∧i<o+vs.length then vs[i-o]? else l[i]?
 | [],l,o,i,h=>by simp only[setCells];rw[if_neg (by rintro⟨h1,h2⟩;simp only[List.length_nil,Nat.add_zero]at h2;omega)]
 | v :: vs,l,o,i,h=>by
  simp only[List.length_cons]at h;simp only[setCells];rw[A6g vs (l.set o v) (o+1) i (by simp;omega)];by_cases h1:o+1≤i∧i<o+1+vs.length
  ·rw[if_pos h1,if_pos (by simp;omega)]
   have:i-o=(i-(o+1))+1:=by omega
   rw[this,List.getElem?_cons_succ]
  ·rw[if_neg h1,List.getElem?_set]
   by_cases h2:o=i
   ·subst h2
    rw[if_pos rfl,if_pos (by omega),if_pos (by simp)];simp
   ·rw[if_neg h2,if_neg (by simp;omega)]
theorem VRels.setCells{ρ:Map}:∀{vs us x y:List Value} {o:Nat},VRels ρ vs us→VRels ρ x y→VRels ρ (setCells x o vs) (setCells y o us)
 | [],_,x,y,o,h,k=>by unfold VRels at h;subst h;exact k
 | v :: vs,_,x,y,o,h,k=>by
  unfold VRels at h;obtain⟨u,us,rfl,h1,h2⟩:=h;show VRels ρ (Sh.setCells (x.set o v) (o+1) vs) (Sh.setCells (y.set o u) (o+1) us);exact VRels.setCells h2 (k.set o h1)
theorem A7l(lo hi k:Nat)(r':Row):∀(rs:List Row) (j i:Nat),(A6e lo hi k r' j rs)[i]?=(rs[i]?).map fun r=>if j+i=k then r' else if B0d r lo hi=true then { r with ok:=false } else r
 | [],j,i=>by simp[A6e]
 | r :: rs,j,0=>by
  simp only[A6e,A1b,Bool.cond_decide,List.getElem?_cons_zero,Option.map_some,Nat.add_zero]
  congr 1
  by_cases h:j=k
  ·rw[if_pos h,if_pos h]
  ·rw[if_neg h,if_neg h]
   cases B0d r lo hi<;>rfl
 | r :: rs,j,i+1=>by
  simp only[A6e,List.getElem?_cons_succ];rw[A7l lo hi k r' rs (j+1) i];have:j+1+i=j+(i+1):=by omega
  rw[this]
theorem A9d(lo hi k:Nat)(r':Row):∀(rs:List Row) (j:Nat),(A6e lo hi k r' j rs).length=rs.length
 | [],_=>rfl
 | _ :: rs,j=>by simp[A6e,A9d lo hi k r' rs]
theorem B5r(r:Row)(lo hi:Nat):B0d r lo hi=true↔r.pos<hi∧lo<r.pos+r.vals.length:=by
 unfold B0d;rw[A1j,A1j];simp
def setBlock(w:World)(b:Nat)(o:Obj):World:={ w with heap:=w.heap.setIfInBounds b o }
theorem A8j(w:World){b:Nat}(o:Obj)(h:b<w.heap.size):(setBlock w b o).heap[b]?=some o:=by
 simp[setBlock,h]
theorem A6h(w:World){b b':Nat}(o:Obj)(h:b'≠b):(setBlock w b o).heap[b']?=w.heap[b']?:=by
 simp[setBlock,Array.getElem?_setIfInBounds_ne (Ne.symm h)]
theorem A5g(w:World)(b:Nat)(o:Obj):(setBlock w b o).heap.size=w.heap.size:=by simp[setBlock]
theorem A75{w:World}{b:Nat}{c:Array Value}{el:TypeId}{fr:Nat×Nat}(h:w.heap[b]?=some (.cells c el fr))(i:Nat)(v:Value):
  w.setCell ⟨b,i,none⟩ v=setBlock w b (.cells (c.setIfInBounds i v) el fr):=by
 unfold World.setCell setBlock
 congr 1
 apply Array.ext_getElem?;intro j;simp only[Array.getElem?_modify,Array.getElem?_setIfInBounds];by_cases hj:b=j
 ·subst hj
  obtain⟨hlt,hv⟩:=Array.getElem?_eq_some_iff.1 h;simp[hlt,hv]
 ·simp[hj]
theorem A9v(w:World)(b:Nat)(o o':Obj):setBlock (setBlock w b o) b o'=setBlock w b o':=by
 simp[setBlock]
theorem A38{w:World}{b:Nat}{o:Obj}(h:w.heap[b]?=some o):setBlock w b o=w:=by
 obtain⟨hlt,hv⟩:=Array.getElem?_eq_some_iff.1 h;have:w.heap.setIfInBounds b o=w.heap:=by
  apply Array.ext
  ·simp
  ·intro j h1 h2
   rw[Array.getElem_setIfInBounds];split
   ·rename_i e;subst e;exact hv.symm
   ·rfl
 unfold setBlock;rw[this]
theorem A7u(P:Program):∀(us:List Value) (w:World) (b o:Nat) (c:Array Value) (el:TypeId) (fr:Nat×Nat) (j:Nat),w.heap[b]?=some (.cells c el fr)→
  o+j+us.length≤c.size→(∀i,i<c.size→¬(fr.1≤i∧i<fr.2))→(∀u∈us,u.oneCell'=true)→
  (storeCells ⟨b,o,none⟩ us j).run P w=.ok () (setBlock w b (.cells (setCells c.toList (o+j) us).toArray el fr))
 | [],w,b,o,c,el,fr,j,h,hl,hf,hu=>by
  have:setBlock w b (.cells (setCells c.toList (o+j) []).toArray el fr)=w:=by
   simp only[setCells,Array.toArray_toList];exact A38 h
  simp only[storeCells,Sem.run_pure];rw[this]
 | u :: us,w,b,o,c,el,fr,j,h,hl,hf,hu=>by
  simp only[List.length_cons]at hl;have ha:(⟨b,o,none⟩:Addr).add j=⟨b,o+j,none⟩:=by unfold Addr.add;split<;>simp_all
  have hcell:w.cell? ⟨b,o+j,none⟩=some (c[o+j]'(by omega)):=by rw[cell_of h];exact Array.getElem?_eq_getElem (by omega)
  have hfz:w.frozen? ⟨b,o+j,none⟩=false:=by
   unfold World.frozen?;rw[h];have:=hf (o+j) (by omega);simp only[Bool.and_eq_false_iff,decide_eq_false_iff_not];by_cases h1:fr.1≤o+j
   ·exact .inr (by omega)
   ·exact .inl h1
  have h1:=run_store P w ⟨b,o+j,none⟩ u .plain (hu u List.mem_cons_self);rw[hcell]at h1;simp only[hfz,Bool.false_eq_true,if_false]at h1;simp only[storeCells,Sem.run_bind,ha,h1,Result.andThen_ok];rw[A75 h];have hb:=(Array.getElem?_eq_some_iff.1 h).1;rw[A7u P us _ b o (c.setIfInBounds (o+j) u) el fr (j+1) (A8j w _ hb) (by simp;omega) (fun i hi=>hf i (by simpa using hi)) (fun x hx=>hu x (List.mem_cons_of_mem _ hx)),A9v];simp only[setCells]
  congr 3
  simp[Nat.add_assoc]
section
variable {B:Nat} {ρ:Map} {H:AH} {w:World}
theorem A1f(H:AH)(g g':Nat)(o:AObj):(H.put g o).objs.get g'=if g'=g then some o else H.objs.get g':=Tr.get_set _ _ _ _
theorem AH.write_some{H H':AH}{a:Addr}{vs:List Value}(h:H.write a vs=some H'):∃rs k r,H.objs.get a.block=some (.rows rs true)∧a.spot=some k∧rs[k]?=some r∧r.ok=true∧a.off+vs.length≤r.vals.length∧
  H'=H.put a.block (.rows (A6e (r.pos+a.off) (r.pos+a.off+vs.length) k { r with vals:=Sh.setCells r.vals a.off vs } 0 rs) true):=by
 unfold AH.write at h;split at h
 ·rename_i rs k h1 h2
  split at h
  ·rename_i r h3
   rw[A0c]at h;cases hok:r.ok with
   | false=>rw[hok]at h;simp at h
   | true=>
    rw[hok]at h;simp only[Bool.true_and,Bool.cond_decide]at h;split at h
    ·rename_i hle
     injection h with h
     exact⟨rs,k,r,h1,h2,h3,hok,hle,by rw[hok];exact h.symm⟩
    ·cases h
  ·cases h
 ·cases h
theorem HRel.write(h:HRel B ρ H w){a:Addr}{vs us:List Value}{H':AH}{k:Nat}{L:Loc}(hw:H.write a vs=some H')(hs:a.spot=some k)(hL:ρ a.block k=some L)(hc:∀v∈vs,isCell v=true)(hr:VRels ρ vs us):
  ∃c el fr,w.heap[L.b]?=some (.cells c el fr)∧L.s+a.off+us.length≤c.size∧(∀i,i<c.size→¬(fr.1≤i∧i<fr.2))∧(∀u∈us,u.oneCell'=true)∧
   HRel B ρ H' (setBlock w L.b (.cells (Sh.setCells c.toList (L.s+a.off) us).toArray el fr))∧Trans B H.next ρ w ρ (setBlock w L.b (.cells (Sh.setCells c.toList (L.s+a.off) us).toArray el fr)):=by
 obtain⟨rs,k',r,h1,h2,h3,hok,hle,rfl⟩:=AH.write_some hw;rw[hs]at h2;injection h2 with h2
 subst h2;obtain⟨c,el,fr,g1,g2,g3,g4,g5,g6⟩:=h.rows _ _ _ h1 _ _ _ h3 hok hL;obtain⟨gB,gf⟩:=g6 rfl;have hlen:=hr.length;have hsz:L.s+a.off+us.length≤c.size:=by omega
 have hlt:=(h.lt _ _ _ hL).2;refine⟨c,el,fr,g1,hsz,fun i hi=>gf i (by omega),fun u hu=>?_,?_,?_⟩
 ·obtain⟨j,hj⟩:=List.mem_iff_getElem?.1 hu
  have hj':=(List.getElem?_eq_some_iff.1 hj).1;have hv:vs[j]?=some (vs[j]'(by omega)):=List.getElem?_eq_getElem (by omega);obtain⟨u',e1,e2⟩:=hr.get hv;rw[hj]at e1;injection e1 with e1
  subst e1;exact(e2.isCell (hc _ (List.getElem_mem _))).1
 ·have hother:∀{b},b≠L.b→(setBlock w L.b (.cells (Sh.setCells c.toList (L.s+a.off) us).toArray el fr)).heap[b]?=w.heap[b]?:=fun hb=>A6h w _ hb
  refine⟨by rw[A5g];exact h.base,?_,?_,?_,?_,?_,?_,?_,?_,?_⟩
  ·intro g rs' rw hg j rj Lj hj hokj hLj
   rw[A1f]at hg;by_cases hga:g=a.block
   ·subst hga
    rw[if_pos rfl]at hg;injection hg with hg
    injection hg with e1 e2
    subst e1 e2;rw[A7l,Nat.zero_add]at hj;obtain⟨r0,e0,e1⟩:=Option.map_eq_some_iff.1 hj;by_cases hjk:j=k
    ·subst hjk
     rw[if_pos rfl]at e1;subst e1;rw[hL]at hLj;injection hLj with hLj
     subst hLj;refine⟨_,el,fr,A8j w _ hlt,by simp[A6f,g2],g3,by simpa [A6f] using g4,fun i v hv=>?_,fun _=>⟨gB,gf⟩⟩;rw[A6g _ _ _ _ hle]at hv;simp only[List.getElem?_toArray];rw[A6g _ _ _ _ (by simpa using hsz)];split at hv
     ·rename_i hin
      have hcl:=hc v (List.mem_of_getElem? hv);obtain⟨u,e1,e2⟩:=hr.get hv;refine⟨hcl,u,?_,e2⟩;rw[if_pos (by omega)];have:L.s+i-(L.s+a.off)=i-a.off:=by omega
      rw[this];exact e1
     ·rename_i hin
      obtain⟨hcl,u,e1,e2⟩:=g5 i v hv;refine⟨hcl,u,?_,e2⟩;rw[if_neg (by omega)]
      simpa using e1
    ·rw[if_neg hjk]at e1
     by_cases hcov:B0d r0 (r.pos+a.off) (r.pos+a.off+vs.length)=true
     ·rw[if_pos hcov]at e1
      subst e1;simp at hokj
     ·rw[if_neg hcov]at e1
      subst e1;have hR:=h.rows _ _ _ h1 _ _ _ e0 hokj hLj;by_cases hbb:Lj.b=L.b
      ·have hap:=(h.apart _ _ _ _ _ _ h1 h1 (.inl rfl) _ _ _ _ _ _ e0 h3 hLj hL hbb).2 hokj hok
       obtain⟨c2,el2,fr2,k1,k2,k3,k4,k5,k6⟩:=hR;rw[hbb,g1]at k1;injection k1 with k1
       injection k1 with k1a k1b k1c
       subst k1a k1b k1c;refine⟨_,el,fr,by rw[hbb];exact A8j w _ hlt,by simp[A6f,k2],k3,k4,fun i v hv=>?_,fun hrw=>⟨by rw[hbb];exact gB,(k6 hrw).2⟩⟩;obtain⟨hcl,u,e1,e2⟩:=k5 i v hv;refine⟨hcl,u,?_,e2⟩;simp only[List.getElem?_toArray];rw[A6g _ _ _ _ (by simpa using hsz)];have hi:=(List.getElem?_eq_some_iff.1 hv).1;have hnc:¬(r0.pos<r.pos+a.off+vs.length∧r.pos+a.off<r0.pos+r0.vals.length):=fun hx=>hcov ((B5r _ _ _).2 hx);rw[if_neg (by omega)]
       simpa using e1
      ·exact hR.mono (Map.le_refl _) (hother hbb)
   ·rw[if_neg hga]at hg
    have hbb:Lj.b≠L.b:=fun hbb=>hga (h.apart _ _ _ _ _ _ hg h1 (.inr rfl) _ _ _ _ _ _ hj h3 hLj hL hbb).1;exact(h.rows _ _ _ hg _ _ _ hj hokj hLj).mono (Map.le_refl _) (hother hbb)
  ·have back : ∀ {g rs' rw}, (H.put a.block (.rows (A6e (r.pos + a.off) (r.pos + a.off + vs.length) k { r with vals := Sh.setCells r.vals a.off vs } 0 rs) true)).objs.get g = some (.rows rs' rw) →
       ∃rs0, H.objs.get g = some (.rows rs0 rw) ∧ ∀(j : Nat) rj, rs'[j]? = some rj → ∃r0, rs0[j]? = some r0 ∧ rj.pos = r0.pos ∧ (rj.ok = true → r0.ok = true) := by
     intro g rs' rw hg;rw[A1f]at hg;by_cases hga : g = a.block
     · subst hga
       rw[if_pos rfl]at hg;injection hg with hg
       injection hg with e1 e2
       subst e1 e2;refine⟨rs, h1, fun j rj hj => ?_⟩;rw[A7l, Nat.zero_add]at hj;obtain⟨r0, e0, e1⟩ := Option.map_eq_some_iff.1 hj;by_cases hjk : j = k
       · subst hjk
         rw[h3]at e0;injection e0 with e0
         subst e0;rw[if_pos rfl]at e1;subst e1;exact⟨r, h3, rfl, fun x => x⟩
       · rw[if_neg hjk]at e1
         refine⟨r0, e0, ?_⟩;split at e1<;>subst e1
         · exact⟨rfl, fun x => by simp at x⟩
         · exact⟨rfl, fun x => x⟩
     · rw[if_neg hga]at hg
       exact⟨rs', hg, fun j rj hj => ⟨rj, hj, rfl, fun x => x⟩⟩
   intro g rs1 rw1 g' rs2 rw2 hg hg' hrw j j' r1 r2 L1 L2 hj hj' hL1 hL2 hb;obtain⟨rs1', q1, q2⟩ := back hg;obtain⟨rs2', q3, q4⟩ := back hg';obtain⟨x1, y1, z1, u1⟩ := q2 _ _ hj;obtain⟨x2, y2, z2, u2⟩ := q4 _ _ hj';have := h.apart _ _ _ _ _ _ q1 q3 hrw _ _ _ _ _ _ y1 y2 hL1 hL2 hb;exact⟨this.1, fun o1 o2 => by rw[z1, z2];exact this.2 (u1 o1) (u2 o2)⟩
  ·intro g es L' hg hL'
   rw[A1f]at hg;split at hg
   ·cases hg
   ·exact(h.maps _ _ _ hg hL').mono (Map.le_refl _) (hother (Ne.symm (h.mixed _ _ _ _ _ _ _ h1 hg hL hL')))
  ·intro g g' es es' L1 L2 hg hg' hL1 hL2 hb
   rw[A1f]at hg hg';split at hg
   ·cases hg
   ·split at hg'
    ·cases hg'
    ·exact h.mapsApart _ _ _ _ _ _ hg hg' hL1 hL2 hb
  ·intro g rs' g' es j L1 L2 hg hg' hL1 hL2
   rw[A1f]at hg hg';split at hg'
   ·cases hg'
   ·split at hg
    ·rename_i hga
     subst hga;exact h.mixed _ _ _ _ _ _ _ h1 hg' hL1 hL2
    ·exact h.mixed _ _ _ _ _ _ _ hg hg' hL1 hL2
  ·intro g j L' e
   have:=h.lt _ _ _ e;exact⟨this.1,by rw[A5g];exact this.2⟩
  ·intro g o hg
   rw[A1f]at hg;split at hg
   ·rename_i hga;subst hga;exact h.inH _ _ h1
   ·exact h.inH _ _ hg
  ·intro g rs' rw hg j L' e
   rw[A1f]at hg;split at hg
   ·rename_i hga
    subst hga;injection hg with hg
    injection hg with e1 e2
    subst e1;rw[A9d];exact h.short _ _ _ h1 _ _ e
   ·exact h.short _ _ _ hg _ _ e
  ·intro g es hg j L' e
   rw[A1f]at hg;split at hg
   ·cases hg
   ·exact h.only _ _ hg _ _ e
 ·refine⟨Map.le_refl _,fun _ _ _ e=>.inl e,fun _ _ _ e=>.inl e,rfl,rfl,rfl,by rw[A5g];exact Nat.le_refl _,fun b hb hn=>A6h w _ ?_⟩
  rcases hn with hn|hn
  ·omega
  ·exact fun e=>hn _ _ _ hL e.symm
theorem HRel.alloc_any(h:HRel B ρ H w)(o:Obj):HRel B ρ H (w.alloc o):=
 ⟨by have:=h.base;simp;omega,fun g rs rw hg k r L hk hok hL=>(h.rows _ _ _ hg _ _ _ hk hok hL).mono (Map.le_refl _) (A2q w _ (h.lt _ _ _ hL).2),h.apart,
  fun g es L hg hL=>(h.maps _ _ _ hg hL).mono (Map.le_refl _) (A2q w _ (h.lt _ _ _ hL).2),h.mapsApart,h.mixed,fun g k L e=>by have:=h.lt _ _ _ e;exact⟨this.1,by simp;omega⟩,h.inH,h.short,h.only⟩
theorem Trans.alloc_any(B n:Nat)(ρ:Map)(w:World)(o:Obj):Trans B n ρ w ρ (w.alloc o):=
 ⟨Map.le_refl _,fun _ _ _ e=>.inl e,fun _ _ _ e=>.inl e,rfl,rfl,rfl,by simp,fun b hb _=>A2q w _ hb⟩
theorem HRel.blur(h:HRel B ρ H w){g:Nat}{rs rs':List Row}(hg:H.objs.get g=some (.rows rs true))(hl:rs.length≤rs'.length)
  (hr:∀(j:Nat) rj,j<rs.length→rs'[j]?=some rj→rj.ok=true→rs[j]?=some rj) (hp:∀(j:Nat) rj r0,rs'[j]?=some rj→rs[j]?=some r0→rj.ok=true→rj=r0):
  HRel B ρ (H.put g (.rows rs' true)) w:=by
 have back:∀{g' rs1 rw},(H.put g (.rows rs' true)).objs.get g'=some (.rows rs1 rw)→∃rs0,H.objs.get g'=some (.rows rs0 rw)∧∀(j:Nat) rj L,rs1[j]?=some rj→ρ g' j=some L→∃r0,rs0[j]?=some r0∧(rj.ok=true→rj=r0):=by
  intro g' rs1 rw hg';rw[A1f]at hg';by_cases e:g'=g
  ·subst e
   rw[if_pos rfl]at hg';injection hg' with hg'
   injection hg' with e1 e2
   subst e1 e2;refine⟨rs,hg,fun j rj L hj hL=>?_⟩;have hlt:=h.short _ _ _ hg _ _ hL;refine⟨rs[j],List.getElem?_eq_getElem hlt,fun hok=>hp j rj _ hj (List.getElem?_eq_getElem hlt) hok⟩
  ·rw[if_neg e]at hg'
   exact⟨rs1,hg',fun j rj L hj _=>⟨rj,hj,fun _=>rfl⟩⟩
 refine⟨h.base,?_,?_,?_,?_,?_,h.lt,?_,?_,?_⟩
 ·intro g' rs1 rw hg' j rj L hj hok hL
  obtain⟨rs0,e1,e2⟩:=back hg';obtain⟨r0,e3,e4⟩:=e2 j rj L hj hL;have:=e4 hok;subst this;exact h.rows _ _ _ e1 _ _ _ e3 hok hL
 ·intro g1 rs1 rw1 g2 rs2 rw2 hg1 hg2 hrw j1 j2 r1 r2 L1 L2 hj1 hj2 hL1 hL2 hb
  obtain⟨rs01,e1,e2⟩:=back hg1;obtain⟨rs02,f1,f2⟩:=back hg2;obtain⟨r01,e3,e4⟩:=e2 _ _ _ hj1 hL1;obtain⟨r02,f3,f4⟩:=f2 _ _ _ hj2 hL2;have:=h.apart _ _ _ _ _ _ e1 f1 hrw _ _ _ _ _ _ e3 f3 hL1 hL2 hb;refine⟨this.1,fun o1 o2=>?_⟩;have a1:=e4 o1;have a2:=f4 o2;subst a1 a2;exact this.2 o1 o2
 ·intro g' es L hg' hL
  rw[A1f]at hg';split at hg'
  ·cases hg'
  ·exact h.maps _ _ _ hg' hL
 ·intro g1 g2 es1 es2 L1 L2 hg1 hg2 hL1 hL2 hb
  rw[A1f]at hg1 hg2;split at hg1
  ·cases hg1
  ·split at hg2
   ·cases hg2
   ·exact h.mapsApart _ _ _ _ _ _ hg1 hg2 hL1 hL2 hb
 ·intro g1 rs1 g2 es k L1 L2 hg1 hg2 hL1 hL2
  obtain⟨rs01,e1,e2⟩:=back hg1;rw[A1f]at hg2;split at hg2
  ·cases hg2
  ·exact h.mixed _ _ _ _ _ _ _ e1 hg2 hL1 hL2
 ·intro g' o hg'
  rw[A1f]at hg';split at hg'
  ·rename_i e;subst e;exact h.inH _ _ hg
  ·exact h.inH _ _ hg'
 ·intro g' rs1 rw hg' k L hL
  rw[A1f]at hg';split at hg'
  ·rename_i e
   subst e;injection hg' with hg'
   injection hg' with e1 e2
   subst e1;exact Nat.lt_of_lt_of_le (h.short _ _ _ hg _ _ hL) hl
  ·exact h.short _ _ _ hg' _ _ hL
 ·intro g' es hg' k L hL
  rw[A1f]at hg';split at hg'
  ·cases hg'
  ·exact h.only _ _ hg' _ _ hL
theorem HRel.scribble(h:HRel B ρ H w){b:Nat}{c:Array Value}{el:TypeId}{fr:Nat×Nat}(hb:w.heap[b]?=some (.cells c el fr))(x:Nat)(us:List Value)(hx:x+us.length≤c.size)
  (hd:∀g rs rw,H.objs.get g=some (.rows rs rw)→∀(k:Nat) r L,rs[k]?=some r→r.ok=true→ρ g k=some L→L.b=b→L.s+r.vals.length≤x∨x+us.length≤L.s):
  HRel B ρ H (setBlock w b (.cells (Sh.setCells c.toList x us).toArray el fr)):=by
 have hlt:=(Array.getElem?_eq_some_iff.1 hb).1;refine⟨by rw[A5g];exact h.base,?_,h.apart,?_,h.mapsApart,h.mixed,fun g k L e=>by rw[A5g];exact h.lt _ _ _ e,h.inH,h.short,h.only⟩
 ·intro g rs rw hg k r L hk hok hL
  have hR:=h.rows _ _ _ hg _ _ _ hk hok hL;by_cases e:L.b=b
  ·have hdis:=hd _ _ _ hg _ _ _ hk hok hL e
   obtain⟨c2,el2,fr2,k1,k2,k3,k4,k5,k6⟩:=hR;rw[e,hb]at k1;injection k1 with k1
   injection k1 with k1a k1b k1c
   subst k1a k1b k1c;refine⟨_,el,fr,by rw[e];exact A8j w _ hlt,by simp[A6f,k2],k3,k4,fun i v hv=>?_,fun hrw=>k6 hrw⟩;obtain⟨hcl,u,e1,e2⟩:=k5 i v hv;refine⟨hcl,u,?_,e2⟩;simp only[List.getElem?_toArray];rw[A6g _ _ _ _ (by simpa using hx)];have hi:=(List.getElem?_eq_some_iff.1 hv).1;rw[if_neg (by omega)]
   simpa using e1
  ·exact hR.mono (Map.le_refl _) (A6h w _ e)
 ·intro g es L hg hL
  have hM:=h.maps _ _ _ hg hL;refine hM.mono (Map.le_refl _) (A6h w _ ?_);rintro rfl;obtain⟨es',cl,k1,_⟩:=hM;rw[hb]at k1;cases k1
theorem HRel.join(h:HRel B ρ H w){g k:Nat}{rs:List Row}{r:Row}{L:Loc}(hg:H.objs.get g=some (.rows rs true))(hk:rs[k]?=some r)(hn:ρ g k=none)(hlt:L.b<w.heap.size)
  (hR:RowAt B ρ w L r true)
  (hap:∀g' rs' rw',H.objs.get g'=some (.rows rs' rw')→∀(k':Nat) r' L',rs'[k']?=some r'→ρ g' k'=some L'→L'.b=L.b→g'=g∧(r.ok=true→r'.ok=true→L.s+r'.pos=L'.s+r.pos)):
  HRel B (ρ.add g k L) H w:=by
 have hle:ρ.le (ρ.add g k L):=Map.le_add hn;have hcase:∀{g' k' L'},(ρ.add g k L) g' k'=some L'→(g'=g∧k'=k∧L'=L)∨ρ g' k'=some L':=by
  intro g' k' L' e;by_cases x:g'=g∧k'=k
  ·obtain⟨rfl,rfl⟩:=x
   rw[Map.add_same]at e;injection e with e
   exact .inl ⟨rfl,rfl,e.symm⟩
  ·rw[Map.add_other _ _ x]at e
   exact .inr e
 refine⟨h.base,?_,?_,?_,?_,?_,?_,h.inH,?_,?_⟩
 ·intro g' rs' rw hg' k' r' L' hk' hok hL'
  rcases hcase hL' with⟨rfl,rfl,rfl⟩|e
  ·rw[hg]at hg'
   injection hg' with hg'
   injection hg' with e1 e2
   subst e1 e2;rw[hk]at hk';injection hk' with hk'
   subst hk';exact hR.mono hle rfl
  ·exact(h.rows _ _ _ hg' _ _ _ hk' hok e).mono hle rfl
 ·intro g1 rs1 rw1 g2 rs2 rw2 hg1 hg2 hrw k1 k2 r1 r2 L1 L2 hk1 hk2 hL1 hL2 hb
  rcases hcase hL1 with⟨rfl,rfl,rfl⟩|e1
  ·rw[hg]at hg1
   injection hg1 with hg1
   injection hg1 with x1 x2
   subst x1 x2;rw[hk]at hk1;injection hk1 with hk1
   subst hk1;rcases hcase hL2 with⟨rfl,rfl,rfl⟩|e2
   ·rw[hg]at hg2
    injection hg2 with hg2
    injection hg2 with x1 x2
    subst x1 x2;rw[hk]at hk2;injection hk2 with hk2
    subst hk2;exact⟨rfl,fun _ _=>rfl⟩
   ·have:=hap _ _ _ hg2 _ _ _ hk2 e2 hb.symm
    exact⟨this.1.symm,this.2⟩
  ·rcases hcase hL2 with⟨rfl,rfl,rfl⟩|e2
   ·rw[hg]at hg2
    injection hg2 with hg2
    injection hg2 with x1 x2
    subst x1 x2;rw[hk]at hk2;injection hk2 with hk2
    subst hk2;have:=hap _ _ _ hg1 _ _ _ hk1 e1 hb;exact⟨this.1,fun o1 o2=>(this.2 o2 o1).symm⟩
   ·exact h.apart _ _ _ _ _ _ hg1 hg2 hrw _ _ _ _ _ _ hk1 hk2 e1 e2 hb
 ·intro g' es L' hg' hL'
  rcases hcase hL' with⟨rfl,rfl,rfl⟩|e
  ·rw[hg]at hg';cases hg'
  ·exact(h.maps _ _ _ hg' e).mono hle rfl
 ·intro g1 g2 es1 es2 L1 L2 hg1 hg2 hL1 hL2 hb
  rcases hcase hL1 with⟨rfl,rfl,rfl⟩|e1
  ·rw[hg]at hg1;cases hg1
  ·rcases hcase hL2 with⟨rfl,rfl,rfl⟩|e2
   ·rw[hg]at hg2;cases hg2
   ·exact h.mapsApart _ _ _ _ _ _ hg1 hg2 e1 e2 hb
 ·intro g1 rs1 g2 es k1 L1 L2 hg1 hg2 hL1 hL2
  rcases hcase hL2 with⟨rfl,rfl,rfl⟩|e2
  ·rw[hg]at hg2;cases hg2
  ·rcases hcase hL1 with⟨rfl,rfl,rfl⟩|e1
   ·intro hb
    obtain⟨es',cl,k1,_⟩:=h.maps _ _ _ hg2 e2;obtain⟨c,el,fr,q1,_⟩:=hR;rw[hb,k1]at q1;cases q1
   ·exact h.mixed _ _ _ _ _ _ _ hg1 hg2 e1 e2
 ·intro g' k' L' e
  rcases hcase e with⟨rfl,rfl,rfl⟩|e
  ·exact⟨h.inH _ _ hg,hlt⟩
  ·exact h.lt _ _ _ e
 ·intro g' rs' rw hg' k' L' e
  rcases hcase e with⟨rfl,rfl,rfl⟩|e
  ·rw[hg]at hg'
   injection hg' with hg'
   injection hg' with x1 x2
   subst x1;exact(List.getElem?_eq_some_iff.1 hk).1
  ·exact h.short _ _ _ hg' _ _ e
 ·intro g' es hg' k' L' e
  rcases hcase e with⟨rfl,rfl,rfl⟩|e
  ·rw[hg]at hg';cases hg'
  ·exact h.only _ _ hg' _ _ e
theorem HRel.set_map(h:HRel B ρ H w){g:Nat}{es es1:List (Value×Value)}{L:Loc}(hg:H.objs.get g=some (.map es))(hL:ρ g 0=some L)(es':Array MapEntry)(cl:Nat)
  (hk:VRels ρ (es1.map (·.1)) (es'.toList.map (·.key))) (hv:VRels ρ (es1.map (·.2)) (es'.toList.map (·.val))):
  HRel B ρ (H.put g (.map es1)) (setBlock w L.b (.map es' cl))∧Trans B H.next ρ w ρ (setBlock w L.b (.map es' cl)):=by
 have hM:=h.maps _ _ _ hg hL;have hlt:=(h.lt _ _ _ hL).2;obtain⟨es0,cl0,k1,kB,_,_⟩:=hM;refine⟨⟨by rw[A5g];exact h.base,?_,?_,?_,?_,?_,fun g k L e=>by rw[A5g];exact h.lt _ _ _ e,?_,?_,?_⟩,Map.le_refl _,fun _ _ _ e=>.inl e,fun _ _ _ e=>.inl e,rfl,rfl,rfl,by rw[A5g];exact Nat.le_refl _,fun b hb hn=>A6h w _ ?_⟩
 ·intro g' rs rw hg' k r L' hk' hok hL'
  rw[A1f]at hg';split at hg'
  ·cases hg'
  ·have hR:=h.rows _ _ _ hg' _ _ _ hk' hok hL'
   refine hR.mono (Map.le_refl _) (A6h w _ ?_);intro e;obtain⟨c,el,fr,q1,_⟩:=hR;rw[e,k1]at q1;cases q1
 ·intro g1 rs1 rw1 g2 rs2 rw2 hg1 hg2
  rw[A1f]at hg1 hg2;split at hg1
  ·cases hg1
  ·split at hg2
   ·cases hg2
   ·exact h.apart _ _ _ _ _ _ hg1 hg2
 ·intro g' es2 L' hg' hL'
  rw[A1f]at hg';split at hg'
  ·rename_i e
   subst e;injection hg' with hg'
   injection hg' with hg'
   subst hg';rw[hL]at hL';injection hL' with hL'
   subst hL';exact⟨es',cl,A8j w _ hlt,kB,hk,hv⟩
  ·rename_i e
   refine(h.maps _ _ _ hg' hL').mono (Map.le_refl _) (A6h w _ ?_);intro hb;exact e (h.mapsApart _ _ _ _ _ _ hg' hg hL' hL hb)
 ·intro g1 g2 x1 x2 L1 L2 hg1 hg2 hL1 hL2 hb
  have aux:∀{g'} {x:List (Value×Value)},(H.put g (.map es1)).objs.get g'=some (.map x)→∃y,H.objs.get g'=some (.map y):=by
   intro g' x hx;rw[A1f]at hx;split at hx
   ·rename_i e;subst e;exact⟨_,hg⟩
   ·exact⟨_,hx⟩
  obtain⟨y1,hy1⟩:=aux hg1;obtain⟨y2,hy2⟩:=aux hg2;exact h.mapsApart _ _ _ _ _ _ hy1 hy2 hL1 hL2 hb
 ·intro g1 rs1 g2 x k L1 L2 hg1 hg2 hL1 hL2
  rw[A1f]at hg1 hg2;split at hg1
  ·cases hg1
  ·split at hg2
   ·rename_i e
    subst e;exact h.mixed _ _ _ _ _ _ _ hg1 hg hL1 hL2
   ·exact h.mixed _ _ _ _ _ _ _ hg1 hg2 hL1 hL2
 ·intro g' o hg'
  rw[A1f]at hg';split at hg'
  ·rename_i e;subst e;exact h.inH _ _ hg
  ·exact h.inH _ _ hg'
 ·intro g' rs rw hg' k L' e
  rw[A1f]at hg';split at hg'
  ·cases hg'
  ·exact h.short _ _ _ hg' _ _ e
 ·intro g' x hg' k L' e
  rw[A1f]at hg';split at hg'
  ·rename_i e';subst e';exact h.only _ _ hg _ _ e
  ·exact h.only _ _ hg' _ _ e
 ·rcases hn with hn|hn
  ·omega
  ·exact fun e=>hn _ _ _ hL e.symm
end
section
variable {P:Program} (w:World)
theorem A0a{t:TypeId}{d:TypeDesc}(h:P.underlying t=some d):(underlying t).run P w=.ok d w:=by simp[underlying,h]
theorem A28{t:TypeId}{i:TypeInfo}(h:P.info? t=some i):(typeInfo t).run P w=.ok i w:=by simp[typeInfo,h]
theorem A0i{t:TypeId}{n:Nat}(h:A5b P t=some n):(sizeOf t).run P w=.ok n w:=by
 unfold A5b at h;obtain⟨i,h1,h2⟩:=Option.map_eq_some_iff.1 h;simp[sizeOf,A28 w h1,h2]
theorem A6l{t:TypeId}{z:Value}(h:zeroAt P t=some z):A0y z=true∧∃i,P.info? t=some i∧i.zero=some z:=by
 unfold zeroAt at h;obtain⟨i,h1,h2⟩:=Option.bind_eq_some_iff.1 h;obtain⟨z',h3,h4⟩:=Option.bind_eq_some_iff.1 h2;cases hc:A0y z' with
 | false=>rw[hc]at h4;cases h4
 | true=>rw[hc]at h4;injection h4 with h4;subst h4;exact⟨hc,i,h1,h3⟩
theorem A7x{t:TypeId}{z:Value}(h:zeroAt P t=some z):(zeroValue t).run P w=.ok z w:=by
 obtain⟨_,i,h1,h2⟩:=A6l h;simp[zeroValue,A28 w h1,h2]
theorem C9b{t:TypeId}{b:Bool}(h:A3f P t=some b):(isAgg t).run P w=.ok b w:=by
 unfold A3f at h;split at h
 ·rename_i fs hu;injection h with h;subst h;simp[isAgg,A0a w hu]
 ·rename_i n e hu;injection h with h;subst h;simp[isAgg,A0a w hu]
 ·rename_i d h1 h2 hu
  injection h with h
  subst h;simp only[isAgg,Sem.run_bind,A0a w hu,Result.andThen_ok];rfl
 ·cases h
end
theorem A79{ρ:Map}{v:Value}(h:scalar v=true):VRel ρ v v:=by
 unfold scalar at h;split at h<;>first|(unfold VRel;rfl)|(cases h;done)|skip
 ·simp only[A1b,Bool.and_eq_true,decide_eq_true_eq]at h
  obtain⟨rfl,rfl⟩:=h;unfold VRel;exact⟨rfl,rfl,rfl⟩
theorem B1l{ρ:Map}:∀{l:List Value},l.all scalar=true→VRels ρ l l
 | [],_=>VRels.nil
 | v :: l,h=>by
  simp only[List.all_cons,Bool.and_eq_true]at h;exact VRels.cons (A79 h.1) (B1l h.2)
theorem A00{ρ:Map}{v:Value}(h:A0y v=true):VRel ρ v v:=by
 cases v with
 | agg x=>obtain⟨x⟩:=x;unfold VRel;exact⟨x,rfl,B1l h⟩
 | tuple x=>simp[A0y]at h
 | iface t x=>unfold VRel;exact⟨x,rfl,A79 h⟩
 | _=>exact A79 h
theorem A30{ρ:Map}:VRel ρ undef undef:=by
 unfold undef;unfold VRel;exact⟨[],rfl,VRels.nil⟩
def FRel(ρ:Map)(F:Fr)(a:Act):Prop:=∀t v,F.get t=some v→∃v',a.tmps[t]?=some v'∧VRel ρ v v'
theorem FRel.mono{ρ ρ':Map}{F:Fr}{a:Act}(h:FRel ρ F a)(hle:ρ.le ρ'):FRel ρ' F a:=fun t v e=>by
 obtain⟨v',h1,h2⟩:=h t v e;exact⟨v',h1,h2.mono hle⟩
theorem A8e{ρ:Map}{F:Fr}{a:Act}(h:FRel ρ F a){x:Operand}{v:Value}(e:ev F x=some v):VRel ρ v (a.eval x):=by
 cases x with
 | tmp t=>
  obtain⟨v',h1,h2⟩:=h t v e
  simpa [Act.eval,Array.getD_eq_getD_getElem?,h1] using h2
 | const c=>
  simp only[ev]at e;cases hc:A0y c with
  | false=>rw[hc]at e;cases e
  | true=>rw[hc]at e;injection e with e;subst e;exact A00 hc
 | global g=>cases e
 | func f=>
  injection e with e
  subst e;unfold VRel;exact⟨[],[],rfl,VRels.nil,VRels.nil⟩
theorem B4x{ρ:Map}{F:Fr}{a:Act}(h:FRel ρ F a):∀{xs:List Operand} {vs:List Value},evs F xs=some vs→VRels ρ vs (xs.map a.eval)
 | [],vs,e=>by injection e with e;subst e;exact VRels.nil
 | x :: xs,vs,e=>by
  simp only[evs]at e;obtain⟨v,h1,h2⟩:=Option.bind_eq_some_iff.1 e;obtain⟨us,h3,h4⟩:=Option.map_eq_some_iff.1 h2;subst h4;exact VRels.cons (A8e h h1) (B4x h h3)
def Comes(B:Nat)(ρ:Map)(H:AH)(w:World)(v:Value)(H':AH)(r:Result Next):Prop:=
 ∃ρ' w',HRel B ρ' H' w'∧Trans B H.next ρ w ρ' w'∧((∃v',r=.ok (.value v') w'∧VRel ρ' v v')∨(r=.ok .skip w'∧v=undef))
section
variable {P:Program} {B:Nat} {ρ:Map} {H:AH} {w:World}
theorem Comes.quiet(h:HRel B ρ H w){v v':Value}(hv:VRel ρ v v'):Comes B ρ H w v H (.ok (.value v') w):=⟨ρ,w,h,Trans.refl _ _ _ _,.inl ⟨v',rfl,hv⟩⟩
theorem add_plain(b o j:Nat):(⟨b,o,none⟩:Addr).add j=⟨b,o+j,none⟩:=by unfold Addr.add;split<;>simp_all
theorem A0q{a:Addr}{v:Value}(h:VRel ρ (.pointer (some a)) v):∃L k,a.spot=some k∧ρ a.block k=some L∧v=.pointer (some ⟨L.b,L.s+a.off,none⟩):=by
 unfold VRel at h;exact h
theorem VRels.agg{x y:List Value}(h:VRels ρ x y):VRel ρ (.agg x.toArray) (.agg y.toArray):=by
 unfold VRel;exact⟨y,rfl,h⟩
theorem C1a(h:HRel B ρ H w){t:TypeId}{p p' v:Value}(hp:VRel ρ p p')(e:A7e P t H p=some v):∃v',(Instr.loadAt t p').run P w=.ok v' w∧VRel ρ v v':=by
 cases p with
 | pointer a=>
  cases a with
  | none=>cases e
  | some a=>
   obtain⟨L,k,h1,h2,rfl⟩:=A0q hp;simp only[A7e]at e;cases hagg:A3f P t with
   | none=>rw[hagg]at e;cases e
   | some b=>
    rw[hagg]at e;simp only[Instr.loadAt,Instr.sureAddr,loadVar,Sem.run_bind,Sem.run_pure,Result.andThen_ok,C9b w hagg];cases b with
    | false=>
     obtain⟨_,u,hu,hr⟩:=h.cell e h1 h2;refine⟨u,?_,hr⟩;simp[hu]
    | true=>
     obtain⟨n,hn,e⟩:=Option.bind_eq_some_iff.1 e;obtain⟨l,hl,e⟩:=Option.map_eq_some_iff.1 e;subst e;obtain⟨hlen,_,us,hus,hc⟩:=h.cells hl h1 h2;have hul:=hus.length;have hrun:=run_loadCells_list (P:=P) w ⟨L.b,L.s+a.off,none⟩ us (fun j u hj=>by rw[add_plain];exact hc j u hj);rw[←hul,hlen]at hrun;refine⟨.agg us.toArray,?_,hus.agg⟩;simp[A0i w hn,hrun]
 | _=>cases e
theorem A31{l:List Value}(h:l.all isCell=true):∀v∈l,isCell v=true:=fun v hv=>List.all_eq_true.1 h v hv
theorem store_ok(h:HRel B ρ H w){t:TypeId}{p p' v v':Value}{H':AH}(hp:VRel ρ p p')(hv:VRel ρ v v')(e:A7d P t H v p=some H'):
  ∃w',(Instr.storeAt t p' v').run P w=.ok () w'∧HRel B ρ H' w'∧Trans B H.next ρ w ρ w':=by
 cases p with
 | pointer a=>
  cases a with
  | none=>cases e
  | some a=>
   obtain⟨L,k,h1,h2,rfl⟩:=A0q hp;simp only[A7d]at e;obtain⟨n,hn,e⟩:=Option.bind_eq_some_iff.1 e;cases hc:(Nat.beq (A6a v).length n&&(A6a v).all isCell) with
   | false=>rw[hc]at e;cases e
   | true=>
    rw[hc]at e;simp only[A1b,Bool.and_eq_true,decide_eq_true_eq]at hc;have hcs:=hv.cells;obtain⟨c,el,fr,g1,g2,g3,g4,g5,g6⟩:=h.write e h1 h2 (A31 hc.2) hcs;refine⟨_,?_,g5,g6⟩;have hlen:=hcs.length;have hsz:v'.cells.size=n:=by rw[←Array.length_toList,←hlen];exact hc.1
    have hrun:=A7u P v'.cells.toList w L.b (L.s+a.off) c el fr 0 g1 (by simpa using g2) g3 g4;rw[Nat.add_zero]at hrun;simp only[Instr.storeAt,Instr.sureAddr,storeVar,Sem.run_bind,Sem.run_pure,Result.andThen_ok,A0i w hn,Sem.run_ite];rw[if_neg (by simp[hsz])];exact hrun
 | _=>cases e
theorem new_ok(h:HRel B ρ H w){t:TypeId}{v v' p:Value}{H':AH}(hv:VRel ρ v v')(e:anew P t H v=some (p,H')):
  ∃w' ρ' a,(newVar t v').run P w=.ok a w'∧VRel ρ' p (.pointer (some a))∧HRel B ρ' H' w'∧Trans B H.next ρ w ρ' w':=by
 unfold anew at e;obtain⟨n,hn,e⟩:=Option.bind_eq_some_iff.1 e;cases hc:(Nat.beq (A6a v).length n&&(A6a v).all isCell) with
 | false=>rw[hc]at e;cases e
 | true=>
  rw[hc]at e;simp only[cond_true,Option.some.injEq,Prod.mk.injEq]at e;obtain⟨rfl,rfl⟩:=e;simp only[A1b,Bool.and_eq_true,decide_eq_true_eq]at hc;have hcs:=hv.cells;have hlen:=hcs.length;obtain⟨g1,g2,g3⟩:=h.new_row n (A6a v) v'.cells t (0,0) (A31 hc.2) (by rw[hlen,Array.length_toList];exact Nat.le_refl _)
   (fun i x hx=>by obtain⟨u,e1,e2⟩:=hcs.get hx;exact⟨u,by simpa using e1,e2⟩) (fun i hi=>by simp)
  refine⟨_,_,⟨w.heap.size,0,none⟩,?_,?_,g1,g2⟩
  ·simp[newVar,newRow]
  ·unfold VRel
   exact⟨_,0,rfl,g3,rfl⟩
theorem B0p{fs:Array Field}{f:Nat}{fd:Field}(h:fs.toList[f]?=some fd):fs[f]?=some fd:=by simpa using h
theorem A18{t:TypeId}{fs:List Field}(h:fieldsOf P t=some fs):∃fa:Array Field,P.underlying t=some (.struct fa)∧fs=fa.toList:=by
 unfold fieldsOf at h;split at h
 ·rename_i fa hu;injection h with h;exact⟨fa,hu,h.symm⟩
 ·cases h
theorem ble_one{n:Nat}(h:Nat.ble 1 n=true):1≤n:=Nat.le_of_ble_eq_true h
theorem B3x{a:Addr}{n:Nat}{L:Loc}{k:Nat}(h1:a.spot=some k)(h2:ρ a.block k=some L):VRel ρ (.pointer (some (plus a n))) (.pointer (some ⟨L.b,L.s+a.off+n,none⟩)):=by
 unfold VRel;exact⟨L,k,h1,h2,by simp[plus,Nat.add_assoc]⟩
theorem B70{t:TypeId}{f:Nat}{p p' v:Value}(hp:VRel ρ p p')(e:A0b P t f p=some v):∃v',(Instr.fieldAt t p' f).run P w=.ok v' w∧VRel ρ v v':=by
 cases p with
 | pointer a=>
  cases a with
  | none=>cases e
  | some a=>
   obtain⟨L,k,h1,h2,rfl⟩:=A0q hp;simp only[A0b]at e;obtain⟨fs,hfs,e1⟩:=Option.bind_eq_some_iff.1 e;obtain⟨fd,hfd,e2⟩:=Option.bind_eq_some_iff.1 e1;obtain⟨n,hn,e3⟩:=Option.bind_eq_some_iff.1 e2;obtain⟨fa,hu,rfl⟩:=A18 hfs;cases hc:(Nat.ble 1 n&&a.spot.isSome) with
   | false=>rw[hc]at e3;cases e3
   | true=>
    rw[hc]at e3;injection e3 with e3
    subst e3;simp only[Bool.and_eq_true]at hc;have h1n:=ble_one hc.1;refine⟨_,?_,B3x h1 h2⟩;simp only[Instr.fieldAt,Sem.run_bind,A0a w hu,Result.andThen_ok,B0p hfd,Instr.sureAddr,Sem.run_pure,fieldPlace,A0i w hn,Sem.run_ite];rw[if_neg (by omega)];simp[add_plain]
 | _=>cases e
theorem B6x{a:Addr}{m c:Nat}{v:Value}(h:VRel ρ (.slice (some a) m c) v):∃ad c',v=.slice (some ad) m c':=by
 unfold VRel at h;rcases h with⟨L,k,o,c',_,_,rfl,_⟩|⟨rfl,_,ad,rfl⟩
 ·exact⟨_,_,rfl⟩
 ·exact⟨_,_,rfl⟩
theorem A2x{a:Addr}{m c:Nat}{v:Value}(h:VRel ρ (.slice (some a) m c) v):SlcRel ρ a m c v:=by unfold VRel at h;exact h
theorem A2f{k:IntKind}{n:Int}{v:Value}(h:VRel ρ (.int k n) v):v=.int k n:=by unfold VRel at h;exact h
theorem B0z{t:TypeId}{x x' i i' v:Value}(hx:VRel ρ x x')(hi:VRel ρ i i')(e:A4b P t x i=some v):∃v',(Instr.indexAt t x' i').run P w=.ok v' w∧VRel ρ v v':=by
 unfold A4b at e;split at e
 ·rename_i ki n
  have:=A2f hi;subst this;split at e
  ·rename_i el a len cap hu
   rcases A2x hx with⟨L,k,o,cap',h1,h2,rfl,h4,h5,h6⟩|⟨rfl,rfl,ad,rfl⟩
   rotate_left
   ·simp[A1j]at e
   obtain⟨s,hs,e⟩:=Option.bind_eq_some_iff.1 e;cases hc:(Nat.blt n len&&a.spot.isSome) with
   | false=>rw[hc]at e;cases e
   | true=>
    rw[hc]at e;injection e with e
    subst e;simp only[Bool.and_eq_true,A1j,decide_eq_true_eq]at hc;have hlt:=hc.1;obtain⟨ho,_⟩:o=L.s+a.off∧o+cap'*L.e≤L.n:=by
     rcases h6 with h6|h6
     ·exact h6
     ·omega
    subst ho;refine⟨_,?_,B3x h1 h2⟩;have h7:(0:Int)≤Int.ofNat n∧Int.ofNat n<(len:Int):=⟨by simp,by simpa using hlt⟩
    simp[Instr.indexAt,asIntOf,A0a w hu,A0i w hs,add_plain,hlt]
  ·rename_i len el a hu
   obtain⟨L,k,h1,h2,rfl⟩:=A0q hx;obtain⟨s,hs,e⟩:=Option.bind_eq_some_iff.1 e;cases hc:(Nat.blt n len&&a.spot.isSome) with
   | false=>rw[hc]at e;cases e
   | true=>
    rw[hc]at e;injection e with e
    subst e;simp only[Bool.and_eq_true,A1j,decide_eq_true_eq]at hc;have hlt:=hc.1;refine⟨_,?_,B3x h1 h2⟩;simp[Instr.indexAt,asIntOf,A0a w hu,A0i w hs,add_plain,hlt,Instr.sureAddr]
  ·cases e
 ·cases e
theorem A40{t:TypeId}{cs cs':List Value}{o:Nat}{v:Value}(hcs:VRels ρ cs cs')(e:apart P t cs o=some v):∃v',(part t cs'.toArray o).run P w=.ok v' w∧VRel ρ v v':=by
 unfold apart at e;cases hagg:A3f P t with
 | none=>rw[hagg]at e;cases e
 | some b=>
  rw[hagg]at e;cases b with
  | false=>
   obtain⟨u,h1,h2⟩:=hcs.get e;refine⟨u,?_,h2⟩;simp[part,C9b w hagg,h1]
  | true=>
   obtain⟨n,hn,e⟩:=Option.bind_eq_some_iff.1 e;obtain⟨l,hl,e⟩:=Option.map_eq_some_iff.1 e;subst e;obtain⟨h1,h2,h3⟩:=A6k hl;subst h2;refine⟨_,?_,((hcs.drop o).take n).agg⟩;simp only[part,Sem.run_bind,C9b w hagg,Result.andThen_ok,if_true,A0i w hn,Sem.run_pure]
   congr 2
   apply Array.ext';simp[]
theorem A8m{cs:Array Value}{v:Value}(h:VRel ρ (.agg cs) v):∃cs':List Value,v=.agg cs'.toArray∧VRels ρ cs.toList cs':=by
 obtain⟨cs⟩:=cs;unfold VRel at h;obtain⟨x,rfl,h⟩:=h;exact⟨x,rfl,h⟩
theorem field_ok{t:TypeId}{f:Nat}{x x' v:Value}(hx:VRel ρ x x')(e:C9f P t f x=some v):∃v',(Instr.field t x' f).run P w=.ok v' w∧VRel ρ v v':=by
 unfold C9f at e;split at e
 ·rename_i cs
  obtain⟨cs',rfl,hcs⟩:=A8m hx;obtain⟨fs,hfs,e1⟩:=Option.bind_eq_some_iff.1 e;obtain⟨fd,hfd,e2⟩:=Option.bind_eq_some_iff.1 e1;obtain⟨fa,hu,rfl⟩:=A18 hfs;obtain⟨v',h1,h2⟩:=A40 (w:=w) hcs e2;refine⟨v',?_,h2⟩;simp[Instr.field,A0a w hu,B0p hfd,asAgg,h1]
 ·cases e
theorem A4i{s:ByteArray}{v:Value}(h:VRel ρ (.string s) v):v=.string s:=by unfold VRel at h;exact h
theorem index_ok{t:TypeId}{x x' i i' v:Value}(hx:VRel ρ x x')(hi:VRel ρ i i')(e:B6c P t x i=some v):∃v',(Instr.index t x' i').run P w=.ok v' w∧VRel ρ v v':=by
 unfold B6c at e;split at e
 ·rename_i ki n
  have:=A2f hi;subst this;split at e
  ·rename_i len el cs hu
   obtain⟨cs',rfl,hcs⟩:=A8m hx;obtain⟨s,hs,e⟩:=Option.bind_eq_some_iff.1 e;cases hc:Nat.blt n len with
   | false=>rw[hc]at e;cases e
   | true=>
    rw[hc]at e;simp only[cond_true]at e;simp only[A1j,decide_eq_true_eq]at hc;obtain⟨v',h1,h2⟩:=A40 (w:=w) hcs e;refine⟨v',?_,h2⟩;simp[Instr.index,asIntOf,A0a w hu,hc,A0i w hs,h1]
  ·rename_i s hu
   have:=A4i hx;subst this;obtain⟨b,hb,e⟩:=Option.map_eq_some_iff.1 e;subst e;refine⟨.int .u8 b.toNat,?_,by unfold VRel;rfl⟩;have hb':s[n]?=some b:=by
    rw[Array.getElem?_toList]at hb;obtain⟨h1,h2⟩:=Array.getElem?_eq_some_iff.1 hb;have h3:n<s.size:=h1;rw[getElem?_pos s n h3]
    congr 1
   simp[Instr.index,asIntOf,A0a w hu,hb']
  ·cases e
 ·cases e
end
theorem A46:∀(us:List Value) (k off:Nat) (cells:Array Value),
  ((us.zipIdx k).foldl (fun(cs:Array Value) (x:Value×Nat)=>cs.setIfInBounds (off+x.2) x.1) cells).toList=setCells cells.toList (off+k) us
 | [],k,off,cells=>by simp[setCells]
 | u :: us,k,off,cells=>by
  simp only[List.zipIdx_cons,List.foldl_cons];rw[A46 us (k+1) off];simp only[setCells,Array.toList_setIfInBounds,Nat.add_assoc]
theorem B8m(c:Array Value)(off:Nat)(cells:Array Value):
  (c.zipIdx.foldl (fun(cs:Array Value) (x:Value×Nat)=>cs.setIfInBounds (off+x.2) x.1) cells)=(setCells cells.toList off c.toList).toArray:=by
 rw[←Array.foldl_toList,Array.toList_zipIdx];apply Array.ext';have:=A46 c.toList 0 off cells
 simpa using this
def PRels(ρ:Map)(x y:List (Nat×Value)):Prop:=x.map (·.1)=y.map (·.1)∧VRels ρ (x.map (·.2)) (y.map (·.2))
section
variable {P:Program} {B:Nat} {ρ:Map} {H:AH} {w:World}
theorem B2y(place:Nat→Option (Nat×Nat)):∀{ps ps':List (Nat×Value)} {cells cells':List Value} {l:List Value},PRels ρ ps ps'→VRels ρ cells cells'→(∀v∈cells,isCell v=true)→A3w place cells ps=some l→
  ∃l',Instr.fill place cells'.toArray ps'=some l'.toArray∧VRels ρ l l'∧(∀v∈l,isCell v=true)∧l.length=cells.length
 | [],ps',cells,cells',l,hp,hc,hi,e=>by
  obtain⟨h1,h2⟩:=hp;have:ps'=[]:=by cases ps' with|nil=>rfl|cons a b=>simp at h1
  subst this;injection e with e
  subst e;exact⟨cells',by simp[Instr.fill],hc,hi,rfl⟩
 | (i,v) :: ps,ps',cells,cells',l,hp,hc,hi,e=>by
  obtain⟨h1,h2⟩:=hp;cases ps' with
  | nil=>simp at h1
  | cons p' ps'=>
   obtain⟨i',v'⟩:=p';simp only[List.map_cons,List.cons.injEq]at h1;obtain⟨rfl,h1⟩:=h1;simp only[List.map_cons]at h2;unfold VRels at h2;obtain⟨u,us,h3,hv,h2⟩:=h2;injection h3 with h3 h4
   subst h3 h4;simp only[A3w]at e;cases hpl:place i with
   | none=>rw[hpl]at e;cases e
   | some x=>
    obtain⟨off,size⟩:=x;rw[hpl]at e;simp only at e;cases hcond:(Nat.beq (A6a v).length size&&Nat.ble (off+size) cells.length&&(A6a v).all isCell) with
    | false=>rw[hcond]at e;cases e
    | true=>
     rw[hcond]at e;simp only[cond_true]at e;simp only[A1b,A0c,Bool.and_eq_true,decide_eq_true_eq]at hcond;obtain⟨⟨c1,c2⟩,c3⟩:=hcond;have hvc:=hv.cells;have hlen:=hvc.length;have hcl:=hc.length;have hsz:v'.cells.size=size:=by rw[←Array.length_toList,←hlen];exact c1
     obtain⟨l',q1,q2,q3,q4⟩:=B2y place ⟨h1,h2⟩ (VRels.setCells (o:=off) hvc hc) (by
      intro x hx;obtain⟨j,hj⟩:=List.mem_iff_getElem?.1 hx;rw[A6g _ _ _ _ (by omega)]at hj;split at hj
      ·exact A31 c3 x (List.mem_of_getElem? hj)
      ·exact hi x (List.mem_of_getElem? hj)) e
     refine⟨l',?_,q2,q3,by rw[q4,A6f]⟩;simp only[Instr.fill,hpl];rw[if_neg (by simp[hsz];omega),B8m];exact q1
theorem B8q(w:World):∀{fs:List Field} {pl:List (Nat×Nat)},placesOf P fs=some pl→(fs.mapM (fun f=>do pure (f.offset,←sizeOf f.type)):Sem (List (Nat×Nat))).run P w=.ok pl w
 | [],pl,e=>by injection e with e;subst e;simp
 | f :: fs,pl,e=>by
  simp only[placesOf]at e;obtain⟨s,h1,e1⟩:=Option.bind_eq_some_iff.1 e;obtain⟨l,h2,e2⟩:=Option.map_eq_some_iff.1 e1;subst e2;have ih:=B8q w h2;simp only[bind_pure_comp]at ih;simp[List.mapM_cons,A0i w h1,ih]
theorem A41{t:TypeId}{z:Value}(hz:zeroAt P t=some z):VRels ρ (A6a z) z.cells.toList:=(A00 (A6l hz).1).cells
theorem build_ok{t:TypeId}{ps ps':List (Nat×Value)}{v:Value}(hp:PRels ρ ps ps')(e:A9n P t ps=some v):∃v',(Instr.build t ps'.toArray).run P w=.ok v' w∧VRel ρ v v':=by
 unfold A9n at e;obtain⟨z,hz,e1⟩:=Option.bind_eq_some_iff.1 e;have hzc:=A41 (ρ:=ρ) hz;have hic:∀v∈A6a z,isCell v=true:=by
  intro v hv;have hc:=(A6l hz).1;have key:∀{x:Value},scalar x=true→isCell x=true:=by
   intro x hx;cases x<;>first|rfl|(simp[scalar]at hx)
  cases z with
  | agg x=>obtain⟨x⟩:=x;exact key (List.all_eq_true.1 hc v hv)
  | tuple x=>simp[A0y]at hc
  | iface t x=>simp[A6a]at hv;subst hv;rfl
  | _=>simp[A6a]at hv;subst hv;exact key hc
 split at e1
 ·rename_i fs hu
  obtain⟨pl,hpl,e2⟩:=Option.bind_eq_some_iff.1 e1;obtain⟨l,hl,e3⟩:=Option.map_eq_some_iff.1 e2;subst e3;obtain⟨l',q1,q2,_⟩:=B2y (fun i=>pl[i]?) hp hzc hic hl;refine⟨_,?_,q2.agg⟩;have hrun:=B8q w hpl;have hrun':(fs.mapM (fun f=>do pure (f.offset,←sizeOf f.type)):Sem (Array (Nat×Nat))).run P w=.ok pl.toArray w:=by
   rw[←Array.toArray_toList (xs:=fs),List.mapM_toArray,Sem.run_map,hrun];rfl
  simp only[Instr.build,Sem.run_bind,A7x w hz,Result.andThen_ok,A0a w hu,hrun'];simp only[Array.toArray_toList]at q1;have:(fun(i:Nat)=>pl.toArray[i]?)=fun(i:Nat)=>pl[i]?:=by funext i;simp
  rw[this];simp[q1]
 ·rename_i n el hu
  obtain⟨s,hs,e2⟩:=Option.bind_eq_some_iff.1 e1;obtain⟨l,hl,e3⟩:=Option.map_eq_some_iff.1 e2;subst e3;obtain⟨l',q1,q2,_⟩:=B2y _ hp hzc hic hl;refine⟨_,?_,q2.agg⟩;simp only[Array.toArray_toList]at q1;simp[Instr.build,A7x w hz,A0a w hu,A0i w hs,q1]
 ·cases e1
theorem A8w(z:List Value):∀n,(repl n z).length=n*z.length
 | 0=>by simp[repl]
 | n+1=>by simp[repl,A8w z n,Nat.succ_mul,Nat.add_comm]
theorem C9l(z:List Value):∀(n i:Nat),i<n*z.length→(repl n z)[i]?=z[i % z.length]?
 | 0,i,h=>by simp at h
 | n+1,i,h=>by
  have hz:0<z.length:=by
   rcases Nat.eq_zero_or_pos z.length with h0|h0
   ·rw[h0]at h;simp at h
   ·exact h0
  simp only[repl];by_cases hi:i<z.length
  ·rw[List.getElem?_append_left hi,Nat.mod_eq_of_lt hi]
  ·rw[List.getElem?_append_right (by omega),C9l z n (i-z.length) (by rw[Nat.succ_mul]at h;omega)]
   congr 1
   exact(Nat.mod_eq_sub_mod (by omega)).symm
theorem C1y(z:Array Value)(n:Nat):((Array.range (n*z.size)).map fun i=>z[i % z.size]!)=(repl n z.toList).toArray:=by
 apply Array.ext';apply List.ext_getElem?;intro i;have hl:z.toList.length=z.size:=rfl;by_cases hi:i<n*z.size
 ·have hz : 0 < z.size := by
    rcases Nat.eq_zero_or_pos z.size with h0|h0
    · rw[h0]at hi;simp at hi
    · exact h0
  have hm := Nat.mod_lt i hz;rw[C9l z.toList n i (by rw[hl];exact hi), hl];simp[hi, hm]
 ·rw[List.getElem?_eq_none (by simp;omega),List.getElem?_eq_none (by simp[A8w,hl];omega)]
theorem VRels.repl{z z':List Value}(h:VRels ρ z z'):∀n,VRels ρ (Sh.repl n z) (Sh.repl n z')
 | 0=>VRels.nil
 | n+1=>VRels.append h (VRels.repl h n)
theorem A45{z:List Value}(h:∀v∈z,isCell v=true):∀n,∀v∈Sh.repl n z,isCell v=true
 | 0,v,hv=>by simp[Sh.repl]at hv
 | n+1,v,hv=>by
  simp only[Sh.repl,List.mem_append]at hv;rcases hv with hv|hv
  ·exact h v hv
  ·exact A45 h n v hv
theorem B7j{t:TypeId}{z:Value}(hz:zeroAt P t=some z):∀v∈A6a z,isCell v=true:=by
 intro v hv;have hc:=(A6l hz).1;have key:∀{x:Value},scalar x=true→isCell x=true:=by
  intro x hx;cases x<;>first|rfl|(simp[scalar]at hx)
 cases z with
 | agg x=>obtain⟨x⟩:=x;exact key (List.all_eq_true.1 hc v hv)
 | tuple x=>simp[A0y]at hc
 | iface t x=>simp[A6a]at hv;subst hv;rfl
 | _=>simp[A6a]at hv;subst hv;exact key hc
theorem B3r(h:HRel B ρ H w)(g s:Nat)(vs us:List Value)(el:TypeId)(len cap:Nat)(hg:H.objs.get g=some (.rows [{ pos:=0,esz:=s,vals:=vs,ok:=true }] true))(hn:∀k,ρ g k=none)
  (hr:VRels ρ vs us) (hc:∀v∈vs,isCell v=true) (hl:len≤cap) (hs:cap*s≤vs.length) (hb:cap<big):
  ∃w' ρ' a,(newRow el us.toArray).run P w=.ok a w'∧VRel ρ' (.slice (some ⟨g,0,some 0⟩) len cap) (.slice (some a) len cap)∧HRel B ρ' H w'∧Trans B g ρ w ρ' w'∧∀g' k L,ρ' g' k=some L→ρ g' k=some L∨g'=g:=by
 have hlen:=hr.length;obtain⟨g1,g2,g3⟩:=h.late_row g s vs hg hn us.toArray el (0,0) hc (by simp[hlen]) (fun i x hx=>by obtain⟨u,e1,e2⟩:=hr.get hx;exact⟨u,by simpa using e1,e2⟩) (fun i hi=>by simp);refine⟨_,_,⟨w.heap.size,0,none⟩,?_,?_,g1,g2,?_⟩
 ·simp[newRow]
 ·unfold VRel
  refine .inl ⟨_,0,0,cap,rfl,g3,rfl,hl,.inl ⟨hb,rfl⟩,.inl ⟨rfl,?_⟩⟩;simp only[List.size_toArray];omega
 ·intro g' k L e
  by_cases x:g'=g
  ·exact .inr x
  ·rw[Map.add_other _ _ (fun y=>x y.1)]at e
   exact .inl e
theorem C1w(h:HRel B ρ H w)(s:Nat)(vs us:List Value)(el:TypeId)(len cap:Nat)(hr:VRels ρ vs us)(hc:∀v∈vs,isCell v=true)(hl:len≤cap)(hs:cap*s≤vs.length)(hb:cap<big):
  ∃w' ρ' a,(newRow el us.toArray).run P w=.ok a w'∧VRel ρ' (.slice (some (H.new s vs).1) len cap) (.slice (some a) len cap)∧HRel B ρ' (H.new s vs).2 w'∧Trans B H.next ρ w ρ' w':=by
 obtain⟨w',ρ',a,h1,h2,h3,h4,_⟩:=B3r (P:=P) (h.reg (.rows [{ pos:=0,esz:=s,vals:=vs,ok:=true }] true)) H.next s vs us el len cap (Tr.get_set_eq _ _ _) (h.none_new) hr hc hl hs hb;exact⟨w',ρ',a,h1,h2,h3,h4⟩
def SlicePre(P:Program)(ρ:Map)(w:World)(H:AH)(v:Value)(H':AH)(s:Sem Value):Prop:=
 ∃(esz:Nat) (vs us:List Value) (el:TypeId) (len cap:Nat),v=.slice (some (H.new esz vs).1) len cap∧H'=(H.new esz vs).2∧VRels ρ vs us∧(∀v∈vs,isCell v=true)∧len≤cap∧cap*esz≤vs.length∧cap<big∧
  ∀a w',(newRow el us.toArray).run P w=.ok a w'→s.run P w=.ok (.slice (some a) len cap) w'
theorem SlicePre.ok{v:Value}{H':AH}{s:Sem Value}(p:SlicePre P ρ w H v H' s)(h:HRel B ρ H w):∃w' ρ' v',s.run P w=.ok v' w'∧VRel ρ' v v'∧HRel B ρ' H' w'∧Trans B H.next ρ w ρ' w':=by
 obtain⟨esz,vs,us,el,len,cap,rfl,rfl,h1,h2,h3,h4,h5,h6⟩:=p;obtain⟨w',ρ',a,r1,r2,r3,r4⟩:=C1w (P:=P) h esz vs us el len cap h1 h2 h3 h4 h5;exact⟨w',ρ',_,h6 _ _ r1,r2,r3,r4⟩
def Late(P:Program)(B:Nat)(ρ:Map)(w:World)(g:Nat)(v:Value)(H2:AH)(s:Sem Value):Prop:=
 ∃w' ρ' v',s.run P w=.ok v' w'∧VRel ρ' v v'∧HRel B ρ' H2 w'∧Trans B g ρ w ρ' w'∧∀g' k L,ρ' g' k=some L→ρ g' k=some L∨g'=g
theorem SlicePre.late{v:Value}{H' H2:AH}{s:Sem Value}(p:SlicePre P ρ w H v H' s)(h:HRel B ρ H2 w)(hg:H2.objs.get H.next=H'.objs.get H.next)(hn:∀k,ρ H.next k=none):Late P B ρ w H.next v H2 s:=by
 obtain⟨esz,vs,us,el,len,cap,rfl,rfl,h1,h2,h3,h4,h5,h6⟩:=p;obtain⟨w',ρ',a,r1,r2,r3,r4,r5⟩:=B3r (P:=P) h H.next esz vs us el len cap (by rw[hg];exact Tr.get_set_eq _ _ _) hn h1 h2 h3 h4 h5;exact⟨w',ρ',_,h6 _ _ r1,r2,r3,r4,r5⟩
theorem A23{t:TypeId}{n:Nat}{ps ps':List (Nat×Value)}{v:Value}{H':AH}(hp:PRels ρ ps ps')(e:A4a P t n ps H=some (v,H')):SlicePre P ρ w H v H' (Instr.buildSlice t n ps'.toArray):=by
 unfold A4a at e;split at e
 ·rename_i el hu
  obtain⟨s,hs,e1⟩:=Option.bind_eq_some_iff.1 e;obtain⟨z,hz,e2⟩:=Option.bind_eq_some_iff.1 e1;cases hcond:(Nat.ble 1 s&&Nat.beq (A6a z).length s&&Nat.ble (n*s) 16777216) with
  | false=>rw[hcond]at e2;cases e2
  | true=>
   rw[hcond]at e2;simp only[cond_true]at e2;simp only[A1b,A0c,Bool.and_eq_true,decide_eq_true_eq]at hcond;obtain⟨⟨c1,c2⟩,c3⟩:=hcond;obtain⟨l,hl,e3⟩:=Option.map_eq_some_iff.1 e2;simp only[Prod.mk.injEq]at e3;obtain⟨rfl,rfl⟩:=e3;have hzc:=A41 (ρ:=ρ) hz;have hzs:z.cells.size=s:=by rw[←Array.length_toList,←hzc.length];exact c2
   obtain⟨l',q1,q2,q3,q4⟩:=B2y _ hp (hzc.repl n) (A45 (B7j hz) n) hl;have hnl:n≤n*s:=Nat.le_mul_of_pos_right n c1;refine⟨s,l,l',el,n,n,rfl,rfl,q2,q3,Nat.le_refl _,by rw[q4,A8w,c2];exact Nat.le_refl _,by unfold big;omega,fun a w' r1=>?_⟩;simp only[Instr.buildSlice,Sem.run_bind,A0a w hu,Result.andThen_ok,A0i w hs,Sem.run_ite];rw[if_neg (by omega)];by_cases h0:n*s=0
   ·have hn0 : n = 0 := by
      rcases Nat.mul_eq_zero.1 h0 with x|x
      · exact x
      · omega
    subst hn0;simp only[h0, if_true, Sem.run_pure, Result.andThen_ok];have : ((Array.range 0).map fun x => (#[] : Array Value)[x % (#[] : Array Value).size]!) = (Sh.repl 0 z.cells.toList).toArray := by simp[Sh.repl]
    rw[this, q1];simp[r1]
   ·simp only[if_neg h0,A7x w hz,Result.andThen_ok,Sem.run_pure]
    have:=C1y z.cells n;rw[hzs]at this;rw[hzs,this,q1];simp[r1]
 ·cases e
theorem B3o{n:Nat}(h:n<9223372036854775808):IntKind.i64.wrap (n:Int)=n:=by
 unfold IntKind.wrap;simp[IntKind.bits,IntKind.signed];omega
theorem A76{t:TypeId}{l l' c c' v:Value}{H':AH}(hl:VRel ρ l l')(hc:VRel ρ c c')(e:A4f P t l c H=some (v,H')):SlicePre P ρ w H v H' (Instr.makeSlice t l' c'):=by
 unfold A4f at e;split at e
 ·rename_i el n m hu
  have h1:=A2f hl;have h2:=A2f hc;subst h1 h2;obtain⟨i,hi,e1⟩:=Option.bind_eq_some_iff.1 e;obtain⟨z,hz,e2⟩:=Option.bind_eq_some_iff.1 e1;cases hcond:(Nat.ble 1 i.size&&Nat.beq (A6a z).length i.size&&Nat.ble n m&&Nat.ble (i.bytes*m) 281474976710656&&Nat.ble m 281474976710656) with
  | false=>rw[hcond]at e2;cases e2
  | true=>
   rw[hcond]at e2;simp only[cond_true,Option.some.injEq,Prod.mk.injEq]at e2;obtain⟨rfl,rfl⟩:=e2;simp only[A1b,A0c,Bool.and_eq_true,decide_eq_true_eq]at hcond;obtain⟨⟨⟨⟨c1,c2⟩,c3⟩,c4⟩,c5⟩:=hcond;have hs:A5b P el=some i.size:=by simp[A5b,hi]
   have hzc:=A41 (ρ:=ρ) hz;have hzs:z.cells.size=i.size:=by rw[←Array.length_toList,←hzc.length];exact c2
   refine⟨i.size,Sh.repl m (A6a z),Sh.repl m z.cells.toList,el,n,m,rfl,rfl,hzc.repl m,A45 (B7j hz) m,c3,by rw[A8w,c2];exact Nat.le_refl _,by unfold big;omega,fun a w' r1=>?_⟩;have b1:(i.bytes:Int)*(m:Int)≤281474976710656:=by
    rw[←Int.natCast_mul];omega
   have k1:IntKind.i64.wrap (Int.ofNat n)=(n:Int):=B3o (by omega);have k2:IntKind.i64.wrap (Int.ofNat m)=(m:Int):=B3o (by omega);simp only[Instr.makeSlice,asInt,asIntOf,Sem.run_bind,A0a w hu,Result.andThen_ok,Sem.run_pure,A28 w hi,k1,k2];have n1:¬((m:Int)<0):=by omega
   have n2:¬((i.bytes:Int)*(m:Int) > 2^48):=by have:(2:Int)^48=281474976710656:=rfl;rw[this];omega
   have n3:¬((n:Int)<0):=by omega
   have n4:¬((n:Int) > (m:Int)):=by omega
   simp only[n1,n2,n3,n4,decide_false,Bool.false_or,Bool.or_false,Bool.false_eq_true,if_false,Sem.run_pure,Result.andThen_ok,Int.toNat_natCast,A0i w hs,run_askRoom,Sem.run_ite,Sem.run_bind];by_cases h0:m*i.size=0
   ·have hm0 : m = 0 := by
      rcases Nat.mul_eq_zero.1 h0 with x|x
      · exact x
      · omega
    subst hm0;simp only[h0, if_true];have : ((Array.range 0).map fun x => (#[] : Array Value)[x % (#[] : Array Value).size]!) = (Sh.repl 0 z.cells.toList).toArray := by simp[Sh.repl]
    rw[this];simp[r1]
   ·simp only[if_neg h0,A7x w hz,Result.andThen_ok]
    have:=C1y z.cells m;rw[hzs]at this;rw[hzs,this];simp[r1]
 ·cases e
def ORel(ρ:Map):Option Value→Option Value→Prop
 | none,o=>o=none
 | some v,o=>∃u,o=some u∧VRel ρ v u
theorem B2g{d n:Nat}{v:Value}(e:bound d (some v)=some n):∃k,v=.int k (n:Int):=by
 unfold bound at e;split at e
 ·rename_i h;cases h
 ·rename_i k m h
  injection h with h
  injection e with e
  subst e;exact⟨k,h⟩
 ·cases e
theorem A5h{v:Value}{k:IntKind}{n y:Nat}(hv:v=.int k (n:Int))(h:n≤y)(code:BoundsCode):(Instr.sliceBound v y code).run P w=.ok n w:=by
 subst hv;simp[Instr.sliceBound,asIntOf];intro hh;omega
theorem C83{d n:Nat}{o o':Option Value}(hr:ORel ρ o o')(e:bound d o=some n):(o'=none∧n=d)∨∃k,o'=some (.int k (n:Int)):=by
 cases o with
 | none=>
  unfold ORel at hr;subst hr;injection e with e
  exact .inl ⟨rfl,e.symm⟩
 | some v=>
  obtain⟨u,rfl,hu⟩:=hr;obtain⟨k,rfl⟩:=B2g e;have:=A2f hu;subst this;exact .inr ⟨k,rfl⟩
theorem A07{b:Bool}{len cap l h:Nat}{lo hi lo' hi':Option Value}(hlo:ORel ρ lo lo')(hhi:ORel ρ hi hi')(el:bound 0 lo=some l)(eh:bound len hi=some h)(h1:l≤h)(h2:h≤cap):
  (Instr.sliceBounds b len cap lo' hi' none).run P w=.ok (l,h,cap) w:=by
 rcases C83 hlo el with⟨rfl,rfl⟩|⟨k1,rfl⟩<;>rcases C83 hhi eh with⟨rfl,rfl⟩|⟨k2,rfl⟩
 ·simp[Instr.sliceBounds]
 ·simp[Instr.sliceBounds,A5h (P:=P) (w:=w) (rfl:(Value.int k2 (h:Int))=_) h2]
 ·simp[Instr.sliceBounds,A5h (P:=P) (w:=w) (rfl:(Value.int k1 (l:Int))=_) h1]
 ·simp[Instr.sliceBounds,A5h (P:=P) (w:=w) (rfl:(Value.int k1 (l:Int))=_) h1,A5h (P:=P) (w:=w) (rfl:(Value.int k2 (h:Int))=_) h2]
theorem B1b{b:Bool}{len cap l h m:Nat}{lo hi mx lo' hi' mx':Option Value}(hlo:ORel ρ lo lo')(hhi:ORel ρ hi hi')(hmx:ORel ρ mx mx')(el:bound 0 lo=some l)(eh:bound len hi=some h)(em:bound 0 mx=some m)
  (hs:hi.isSome=true) (ms:mx.isSome=true) (h1:l≤h) (h2:h≤m) (h3:m≤cap):
  (Instr.sliceBounds b len cap lo' hi' mx').run P w=.ok (l,h,m) w:=by
 have hh:∃k,hi'=some (.int k (h:Int)):=by
  cases hi with
  | none=>cases hs
  | some v=>obtain⟨u,rfl,hu⟩:=hhi;obtain⟨k,rfl⟩:=B2g eh;have:=A2f hu;subst this;exact⟨k,rfl⟩
 have hm:∃k,mx'=some (.int k (m:Int)):=by
  cases mx with
  | none=>cases ms
  | some v=>obtain⟨u,rfl,hu⟩:=hmx;obtain⟨k,rfl⟩:=B2g em;have:=A2f hu;subst this;exact⟨k,rfl⟩
 obtain⟨k2,rfl⟩:=hh;obtain⟨k3,rfl⟩:=hm;rcases C83 hlo el with⟨rfl,rfl⟩|⟨k1,rfl⟩
 ·simp[Instr.sliceBounds,A5h (P:=P) (w:=w) (rfl:(Value.int k2 (h:Int))=_) h2,A5h (P:=P) (w:=w) (rfl:(Value.int k3 (m:Int))=_) h3]
 ·simp[Instr.sliceBounds,A5h (P:=P) (w:=w) (rfl:(Value.int k1 (l:Int))=_) h1,A5h (P:=P) (w:=w) (rfl:(Value.int k2 (h:Int))=_) h2,A5h (P:=P) (w:=w) (rfl:(Value.int k3 (m:Int))=_) h3]
theorem C8m{c c':Nat}(h:CapRel c c'):A5p c≤c':=by
 unfold A5p;rw[A0c,Bool.cond_decide];rcases h with⟨h1,h2⟩|⟨h1,h2⟩
 ·rw[if_neg (by omega)];omega
 ·rw[if_pos h1];exact h2
theorem C6f{c c':Nat}(h:CapRel c c')(e:A9w c=true):c'=c∧c<big:=by
 unfold A9w at e;rw[A0c]at e;simp at e;rcases h with⟨h1,h2⟩|⟨h1,h2⟩
 ·exact⟨h2,h1⟩
 ·omega
theorem CapRel.sub{c c' l:Nat}(h:CapRel c c')(hl:l≤A5p c):CapRel (c-l) (c'-l):=by
 unfold A5p at hl;rw[A0c,Bool.cond_decide]at hl;rcases h with⟨h1,h2⟩|⟨h1,h2⟩
 ·exact .inl ⟨by omega,by omega⟩
 ·rw[if_pos h1]at hl
  exact .inr ⟨by omega,by omega⟩
theorem C96(h:HRel B ρ H w){a:Addr}{s k:Nat}{L:Loc}(e:A83 H a s=true)(hs:a.spot=some k)(hL:ρ a.block k=some L):L.e=s:=by
 unfold A83 at e;split at e
 ·rename_i r hr
  obtain⟨rw,c,el,fr,h1,h2,h3,h4⟩:=h.row hr hs hL;rw[h3];exact Nat.eq_of_beq_eq_true e
 ·cases e
theorem extract_eq(s:ByteArray)(l h:Nat):s.extract l h=⟨((s.data.toList.drop l).take (h-l)).toArray⟩:=by
 have:(s.extract l h).data=((s.data.toList.drop l).take (h-l)).toArray:=by
  rw[ByteArray.data_extract];apply Array.ext';simp[Array.toList_extract]
 exact ByteArray.ext this
theorem A91{α:Type}{c:Bool}{x:Option α}{y:α}(h:(bif c then x else none)=some y):c=true∧x=some y:=by
 cases c with
 | false=>cases h
 | true=>exact⟨rfl,h⟩
theorem C79{a:Addr}{L:Loc}{k o len cap' l h m s C:Nat}{A:Addr}(h1:a.spot=some k)(h2:ρ a.block k=some L)(h6:(o=L.s+a.off∧o+cap'*L.e≤L.n)∨(len=0∧cap'=0))
  (hlh:l≤h) (hhm:h≤m) (hm:m≤cap') (he:l≠0→L.e=s) (hA:A=if l=0 then a else if m=l then A else plus a (l*s)) (hA':A=a∨A=plus a (l*s)) (hc:CapRel C (m-l)):
  VRel ρ (.slice (some A) (h-l) C) (.slice (if m=l then some ⟨L.b,o,none⟩ else (some (⟨L.b,o,none⟩:Addr)).map (·.add (l*s))) (h-l) (m-l)):=by
 have hsp:A.spot=some k∧A.block=a.block:=by rcases hA' with rfl|rfl<;>exact⟨h1,rfl⟩
 unfold VRel;refine .inl ⟨L,k,if m=l then o else o+l*s,m-l,hsp.1,by rw[hsp.2];exact h2,?_,by omega,hc,?_⟩
 ·by_cases e:m=l
  ·simp[e]
  ·simp[e,add_plain]
 ·rcases h6 with⟨g1,g2⟩|⟨g1,g2⟩
  ·by_cases e:m=l
   ·exact .inr ⟨by omega,by omega⟩
   ·left
    rw[if_neg e];by_cases e0:l=0
    ·subst e0
     rw[if_pos rfl]at hA;subst hA;refine⟨by omega,?_⟩;have:m*L.e≤cap'*L.e:=Nat.mul_le_mul_right _ hm;simp only[Nat.zero_mul,Nat.add_zero,Nat.sub_zero];omega
    ·rw[if_neg e0,if_neg e]at hA
     subst hA;have hes:=he e0;refine⟨by simp only[plus];omega,?_⟩;rw[hes]at g2 ⊢;have x1:m*s≤cap'*s:=Nat.mul_le_mul_right _ hm;have x2:(m-l)*s=m*s-l*s:=Nat.sub_mul _ _ _;have x3:l*s≤m*s:=Nat.mul_le_mul_right _ (by omega);omega
  ·exact .inr ⟨by omega,by omega⟩
theorem slice_ok(h:HRel B ρ H w){t:TypeId}{x x' v:Value}{lo hi mx lo' hi' mx':Option Value}(hx:VRel ρ x x')(hlo:ORel ρ lo lo')(hhi:ORel ρ hi hi')(hmx:ORel ρ mx mx')(e:A7s P t H x lo hi mx=some v):
  ∃v',(Instr.sliceAt t x' lo' hi' mx').run P w=.ok v' w∧VRel ρ v v':=by
 unfold A7s at e;split at e
 ·rename_i s hu
  have:=A4i hx;subst this;obtain⟨l,hl,e1⟩:=Option.bind_eq_some_iff.1 e;obtain⟨hh,hhh,e2⟩:=Option.bind_eq_some_iff.1 e1;cases hcond:(Nat.ble l hh&&Nat.ble hh s.size&&mx.isNone) with
  | false=>rw[hcond]at e2;cases e2
  | true=>
   rw[hcond]at e2;injection e2 with e2
   subst e2;simp only[A0c,Bool.and_eq_true,decide_eq_true_eq]at hcond;obtain⟨⟨c1,c2⟩,c3⟩:=hcond;have hm:mx'=none:=by
    cases mx with
    | none=>exact hmx
    | some m=>simp at c3
   subst hm;refine⟨_,?_,by unfold VRel;rfl⟩;have hb:=A07 (P:=P) (w:=w) (b:=false) hlo hhi hl hhh c1 c2;simp[Instr.sliceAt,A0a w hu,Instr.slice,hb,extract_eq]
 ·rename_i el len cap hu
  unfold VRel at hx;obtain⟨rfl,rfl,rfl⟩:=hx;obtain⟨s,hs,e0⟩:=Option.bind_eq_some_iff.1 e;obtain⟨l,hl,e1⟩:=Option.bind_eq_some_iff.1 e0;obtain⟨hh,hhh,e2⟩:=Option.bind_eq_some_iff.1 e1;obtain⟨m,hm,e3⟩:=Option.bind_eq_some_iff.1 e2;cases hcond:(Nat.beq l 0&&Nat.beq hh 0&&Nat.beq m 0&&(mx.isNone||hi.isSome)) with
  | false=>rw[hcond]at e3;cases e3
  | true=>
   rw[hcond]at e3;injection e3 with e3
   subst e3;simp only[A1b,Bool.and_eq_true,decide_eq_true_eq]at hcond;obtain⟨⟨⟨rfl,rfl⟩,rfl⟩,hsome⟩:=hcond;refine⟨.slice none 0 0,?_,by unfold VRel;exact⟨rfl,rfl,rfl⟩⟩;cases mx with
   | none=>
    unfold ORel at hmx;subst hmx;have hb:=A07 (P:=P) (w:=w) (b:=true) (cap:=0) hlo hhi hl hhh (Nat.le_refl _) (Nat.le_refl _);simp[Instr.sliceAt,A0a w hu,Instr.slice,hb,A0i w hs]
   | some mv=>
    cases hi with
    | none=>
     simp at hsome
    | some hv=>
     have hb:=B1b (P:=P) (w:=w) (b:=true) (cap:=0) hlo hhi hmx hl hhh hm rfl rfl (Nat.le_refl _) (Nat.le_refl _) (Nat.le_refl _);simp[Instr.sliceAt,A0a w hu,Instr.slice,hb,A0i w hs]
 ·rename_i el a len cap hu
  rcases A2x hx with⟨L,k,o,cap',h1,h2,rfl,h4,h5,h6⟩|⟨rfl,rfl,ad,rfl⟩
  rotate_left
  ·obtain⟨s,hs,e0⟩:=Option.bind_eq_some_iff.1 e
   obtain⟨l,hl,e1⟩:=Option.bind_eq_some_iff.1 e0;obtain⟨hh,hhh,e2⟩:=Option.bind_eq_some_iff.1 e1;have hc0:A5p 0=0:=rfl;cases mx with
   | none=>
    unfold ORel at hmx;subst hmx;obtain⟨hcond,e3⟩:=A91 e2;simp only[A0c,Bool.and_eq_true,decide_eq_true_eq,hc0]at hcond;obtain⟨⟨⟨c1,c2⟩,_⟩,_⟩:=hcond;have hh0:hh=0:=by omega
    subst hh0;have hl0:l=0:=by omega
    subst hl0;injection e3 with e3
    subst e3;have hb:=A07 (P:=P) (w:=w) (b:=true) (cap:=0) hlo hhi hl hhh (Nat.le_refl _) (Nat.le_refl _);refine⟨.slice (some ad) 0 0,by simp[Instr.sliceAt,A0a w hu,Instr.slice,hb,A0i w hs],?_⟩;unfold VRel;exact .inr ⟨rfl,rfl,ad,rfl⟩
   | some mv=>
    simp only at e2;obtain⟨m,hm,e3⟩:=Option.bind_eq_some_iff.1 e2;obtain⟨hcond,e4⟩:=A91 e3;simp only[A0c,Bool.and_eq_true,decide_eq_true_eq,hc0]at hcond;obtain⟨⟨⟨⟨⟨c1,c2⟩,c3⟩,_⟩,_⟩,c6⟩:=hcond;have hm0:m=0:=by omega
    subst hm0;have hh0:hh=0:=by omega
    subst hh0;have hl0:l=0:=by omega
    subst hl0;injection e4 with e4
    subst e4;have hb:=B1b (P:=P) (w:=w) (b:=true) (len:=0) (cap:=0) hlo hhi hmx hl hhh hm c6 rfl (Nat.le_refl _) (Nat.le_refl _) (Nat.le_refl _);refine⟨.slice (some ad) 0 0,by simp[Instr.sliceAt,A0a w hu,Instr.slice,hb,A0i w hs],?_⟩;unfold VRel;exact .inr ⟨rfl,rfl,ad,rfl⟩
  obtain⟨s,hs,e0⟩:=Option.bind_eq_some_iff.1 e;obtain⟨l,hl,e1⟩:=Option.bind_eq_some_iff.1 e0;obtain⟨hh,hhh,e2⟩:=Option.bind_eq_some_iff.1 e1;have hlo':=C8m h5;cases mx with
  | none=>
   unfold ORel at hmx;subst hmx;simp only at e2;cases hcond:(Nat.ble l hh&&Nat.ble hh (A5p cap)&&(A9w cap||Nat.beq l 0||Nat.blt l (A5p cap)||Nat.beq l hh)&&(Nat.beq l 0||A83 H a s)) with
   | false=>rw[hcond]at e2;cases e2
   | true=>
    rw[hcond]at e2;injection e2 with e2
    subst e2;simp only[A0c,A1b,A1j,Bool.and_eq_true,Bool.or_eq_true,decide_eq_true_eq]at hcond;obtain⟨⟨⟨c1,c2⟩,c3⟩,c4⟩:=hcond;have hb:=A07 (P:=P) (w:=w) (b:=true) (cap:=cap') hlo hhi hl hhh c1 (Nat.le_trans c2 hlo');refine⟨.slice (if cap'=l then some ⟨L.b,o,none⟩ else (some (⟨L.b,o,none⟩:Addr)).map (·.add (l*s))) (hh-l) (cap'-l),by simp only[Instr.sliceAt,Sem.run_bind,A0a w hu,Result.andThen_ok,Instr.slice,hb,A0i w hs,Sem.run_pure],?_⟩;have hcr:=h5.sub (Nat.le_trans c1 c2);have hesz:l≠0→L.e=s:=fun hl0=>C96 h (c4.resolve_left hl0) h1 h2;have key:∀A,A=(if l=0∨(A9w cap=true∧l=cap) then a else plus a (l*s))→A=(if l=0 then a else if cap'=l then A else plus a (l*s))∧(A=a∨A=plus a (l*s)):=by
     intro A hA;by_cases e0:l=0
     ·rw[if_pos (.inl e0)]at hA
      exact⟨by rw[if_pos e0];exact hA,.inl hA⟩
     ·by_cases e1:A9w cap=true∧l=cap
      ·rw[if_pos (.inr e1)]at hA
       have:=(C6f h5 e1.1).1;exact⟨by rw[if_neg e0,if_pos (by omega)],.inl hA⟩
      ·rw[if_neg (fun x=>x.elim e0 e1)]at hA
       refine⟨?_,.inr hA⟩;rw[if_neg e0];split
       ·rfl
       ·exact hA
    have hAeq:(bif Nat.beq l 0||(A9w cap&&Nat.beq l cap) then a else plus a (l*s))=(if l=0∨(A9w cap=true∧l=cap) then a else plus a (l*s)):=by
     rw[A1b,A1b];cases A9w cap<;>by_cases x:l=0<;>by_cases y:l=cap<;>simp[x,y]
    obtain⟨k1,k2⟩:=key _ hAeq;exact C79 h1 h2 h6 c1 (Nat.le_trans c2 hlo') (Nat.le_refl _) hesz k1 k2 hcr
  | some mv=>
   simp only at e2;obtain⟨m,hm,e3⟩:=Option.bind_eq_some_iff.1 e2;cases hcond:(Nat.ble l hh&&Nat.ble hh m&&Nat.ble m (A5p cap)&&Nat.blt m big&&A83 H a s&&hi.isSome) with
   | false=>rw[hcond]at e3;cases e3
   | true=>
    rw[hcond]at e3;injection e3 with e3
    subst e3;simp only[A0c,A1j,Bool.and_eq_true,decide_eq_true_eq]at hcond;obtain⟨⟨⟨⟨⟨c1,c2⟩,c3⟩,c4⟩,c5⟩,c6⟩:=hcond;have hb:=B1b (P:=P) (w:=w) (b:=true) (len:=len) (cap:=cap') hlo hhi hmx hl hhh hm c6 rfl c1 c2 (Nat.le_trans c3 hlo');refine⟨.slice (if m=l then some ⟨L.b,o,none⟩ else (some (⟨L.b,o,none⟩:Addr)).map (·.add (l*s))) (hh-l) (m-l),by simp only[Instr.sliceAt,Sem.run_bind,A0a w hu,Result.andThen_ok,Instr.slice,hb,A0i w hs,Sem.run_pure],?_⟩;have hesz:l≠0→L.e=s:=fun _=>C96 h c5 h1 h2;have hAeq:(bif Nat.beq l 0||Nat.beq l m then a else plus a (l*s))=(if l=0 then a else if m=l then a else plus a (l*s)):=by
     rw[A1b,A1b];by_cases x:l=0<;>by_cases y:m=l
     ·simp[x]
     ·simp[x]
     ·simp[x,y]
     ·have:¬(l=m):=fun z=>y z.symm
      simp[x,y,this]
    refine C79 h1 h2 h6 c1 c2 (Nat.le_trans c3 hlo') hesz ?_ ?_ (.inl ⟨by omega,rfl⟩)
    ·rw[hAeq]
     by_cases x:l=0
     ·simp[x]
     ·by_cases y:m=l
      ·simp[x,y]
      ·simp[x,y]
    ·rw[hAeq]
     by_cases x:l=0
     ·simp[x]
     ·by_cases y:m=l
      ·simp[x,y]
      ·simp[x,y]
 ·cases e
end
theorem B2b{j k:IntKind}:A1n j k=true↔j=k:=by cases j<;>cases k<;>simp[A1n]
theorem A3q(a b:Int):B4d a b=(a == b):=by
 rw[Bool.eq_iff_iff,beq_iff_eq];cases a with
 | ofNat a=>
  cases b with
  | ofNat b=>simp only[B4d,A1b,decide_eq_true_eq];exact⟨fun h=>by rw[h],fun h=>Int.ofNat.inj h⟩
  | negSucc b=>simp[B4d]
 | negSucc a=>
  cases b with
  | ofNat b=>simp[B4d]
  | negSucc b=>simp only[B4d,A1b,decide_eq_true_eq];exact⟨fun h=>by rw[h],fun h=>Int.negSucc.inj h⟩
theorem A7k(a b:Int):A4v a b=decide (a≤b):=by
 rw[Bool.eq_iff_iff,decide_eq_true_eq];cases a with
 | ofNat a=>
  have ha:(0:Int)≤Int.ofNat a:=Int.natCast_nonneg a;cases b with
  | ofNat b=>simp only[A4v,A0c,decide_eq_true_eq];exact⟨fun h=>Int.ofNat_le.2 h,fun h=>Int.ofNat_le.1 h⟩
  | negSucc b=>
   have hb:=Int.negSucc_lt_zero b;exact⟨fun h=>(by cases h),fun h=>(by omega)⟩
 | negSucc a=>
  have ha:=Int.negSucc_lt_zero a;cases b with
  | ofNat b=>
   have hb:(0:Int)≤Int.ofNat b:=Int.natCast_nonneg b;exact⟨fun _=>by omega,fun _=>rfl⟩
  | negSucc b=>
   simp only[A4v,A0c,decide_eq_true_eq];rw[Int.negSucc_eq,Int.negSucc_eq];omega
theorem u8_eq{a b:UInt8}:a.toNat=b.toNat↔a=b:=⟨UInt8.toNat_inj.1,fun h=>by rw[h]⟩
theorem A04:∀{x y:List UInt8},A0l x y=true↔x=y
 | [],[]=>by simp[A0l]
 | [],_ :: _=>by simp[A0l]
 | _ :: _,[]=>by simp[A0l]
 | a :: x,b :: y=>by simp only[A0l,A1b,Bool.and_eq_true,decide_eq_true_eq,A04,List.cons.injEq,u8_eq]
theorem B4r(x y:List UInt8):A0l x y=(x == y):=by rw[Bool.eq_iff_iff,A04];simp
theorem B7n:∀(x y:List UInt8),A3p x y=Op.bytesLess x y
 | [],[]=>rfl
 | _ :: _,[]=>rfl
 | [],_ :: _=>rfl
 | a :: x,b :: y=>by
  simp only[A3p,Op.bytesLess,A1b,A1j,B7n x y]
  congr 1
  congr 1
  rw[Bool.eq_iff_iff];simp[u8_eq]
theorem toList_data(a:ByteArray):a.toList=a.data.toList:=ByteArray.toList_eq a
section
variable {P:Program} {B:Nat} {ρ:Map} {H:AH} {w:World}
theorem A6n{b:Bool}{v:Value}(h:VRel ρ (.bool b) v):v=.bool b:=by unfold VRel at h;exact h
theorem B2x{v:Value}(h:VRel ρ (.pointer none) v):v=.pointer none:=by unfold VRel at h;exact h
theorem A1x{m c:Nat}{v:Value}(h:VRel ρ (.slice none m c) v):m=0∧c=0∧v=.slice none 0 0:=by unfold VRel at h;exact h
theorem B7f{v:Value}(h:VRel ρ (.map none) v):v=.map none:=by unfold VRel at h;exact h
theorem B3a{g:Nat}{v:Value}(h:VRel ρ (.map (some g)) v):∃L,ρ g 0=some L∧v=.map (some L.b):=by unfold VRel at h;exact h
theorem B7t{v:Value}(h:VRel ρ .nilFunc v):v=.nilFunc:=by unfold VRel at h;exact h
theorem B6a{v:Value}(h:VRel ρ .nilIface v):v=.nilIface:=by unfold VRel at h;exact h
theorem B0i{f:Fn}{x y:Array Value}{v:Value}(h:VRel ρ (.func f x y) v):∃x' y':List Value,v=.func f x'.toArray y'.toArray∧VRels ρ x.toList x'∧VRels ρ y.toList y':=by
 obtain⟨x⟩:=x;obtain⟨y⟩:=y;unfold VRel at h;obtain⟨x',y',rfl,h1,h2⟩:=h;exact⟨x',y',rfl,h1,h2⟩
theorem A64{t:TypeId}{x v:Value}(h:VRel ρ (.iface t x) v):∃x',v=.iface t x'∧VRel ρ x x':=by unfold VRel at h;exact h
theorem C7p{cs:Array Value}{v:Value}(h:VRel ρ (.tuple cs) v):∃cs':List Value,v=.tuple cs'.toArray∧VRels ρ cs.toList cs':=by
 obtain⟨cs⟩:=cs;unfold VRel at h;obtain⟨x,rfl,h⟩:=h;exact⟨x,rfl,h⟩
def EqOk(P:Program)(ρ:Map)(d:Nat):Prop:=∀(D:Nat),d≤D→∀(w:World) (t:TypeId) (x y x' y':Value) (b:Bool),VRel ρ x x'→VRel ρ y y'→eqT P d t x y=some b→(Op.equalIn D t x' y').run P w=.ok b w
theorem A15{d D:Nat}(ih:∀(w:World) (t:TypeId) (x y x' y':Value) (b:Bool),VRel ρ x x'→VRel ρ y y'→eqT P d t x y=some b→(Op.equalIn D t x' y').run P w=.ok b w)(w:World)
  {xs ys xs' ys':List Value} (hx:VRels ρ xs xs') (hy:VRels ρ ys ys'):∀{fs:List Field} {b:Bool},eqFields P (eqT P d) xs ys fs=some b→(Op.eqFields D xs'.toArray ys'.toArray fs).run P w=.ok b w
 | [],b,e=>by injection e with e;subst e;simp[Op.eqFields]
 | f :: fs,b,e=>by
  simp only[eqFields]at e;simp only[Op.eqFields];by_cases hn:f.name = "_"
  ·simp only[hn,beq_self_eq_true,cond_true]at e
   rw[if_neg (by simp[hn])];exact A15 ih w hx hy e
  ·have hn':(f.name == "_")=false:=by simp[hn]
   rw[hn']at e;simp only[cond_false]at e;obtain⟨a,ha,e1⟩:=Option.bind_eq_some_iff.1 e;obtain⟨c,hc,e2⟩:=Option.bind_eq_some_iff.1 e1;obtain⟨a',ra,va⟩:=A40 (w:=w) hx ha;obtain⟨c',rc,vc⟩:=A40 (w:=w) hy hc;rw[if_pos (by simp[hn])];simp only[Sem.run_bind,ra,rc,Result.andThen_ok];cases hq:eqT P d f.type a c with
   | none=>rw[hq]at e2;cases e2
   | some q=>
    rw[hq]at e2;rw[ih w f.type a c a' c' q va vc hq];cases q with
    | true=>simp only at e2;simpa using A15 ih w hx hy e2
    | false=>simp only[Option.some.injEq]at e2;subst e2;simp
theorem B7r{d D:Nat}(ih:∀(w:World) (t:TypeId) (x y x' y':Value) (b:Bool),VRel ρ x x'→VRel ρ y y'→eqT P d t x y=some b→(Op.equalIn D t x' y').run P w=.ok b w)(w:World)(el:TypeId)(n:Nat)
  {xs ys xs' ys':List Value} (hx:VRels ρ xs xs') (hy:VRels ρ ys ys'):∀{is:List Nat} {b:Bool},B2v P (eqT P d) el n xs ys is=some b→(Op.eqItems D el n xs'.toArray ys'.toArray is).run P w=.ok b w
 | [],b,e=>by injection e with e;subst e;simp[Op.eqItems]
 | i :: is,b,e=>by
  simp only[B2v]at e;obtain⟨a,ha,e1⟩:=Option.bind_eq_some_iff.1 e;obtain⟨c,hc,e2⟩:=Option.bind_eq_some_iff.1 e1;obtain⟨a',ra,va⟩:=A40 (w:=w) hx ha;obtain⟨c',rc,vc⟩:=A40 (w:=w) hy hc;simp only[Op.eqItems,Sem.run_bind,ra,rc,Result.andThen_ok];cases hq:eqT P d el a c with
  | none=>rw[hq]at e2;cases e2
  | some q=>
   rw[hq]at e2;rw[ih w el a c a' c' q va vc hq];cases q with
   | true=>simp only at e2;simpa using B7r ih w el n hx hy e2
   | false=>simp only[Option.some.injEq]at e2;subst e2;simp
theorem cellsOf_size{t:TypeId}{n:Nat}(h:A5b P t=some n):∃i,P.info? t=some i∧P.cellsOf t=n:=by
 unfold A5b at h;obtain⟨i,h1,h2⟩:=Option.map_eq_some_iff.1 h;exact⟨i,h1,by simp[Program.cellsOf,h1,h2]⟩
theorem eqT_ok(d:Nat):EqOk P ρ d:=by
 induction d with
 | zero=>intro D hD w t x y x' y' b hx hy e;cases e
 | succ d IH=>
  intro D hD w t x y x' y' b hx hy e;obtain⟨D,rfl⟩:∃m,D=m+1:=⟨D-1,by omega⟩
  have ih:=fun w t x y x' y' b=>IH D (by omega) w t x y x' y' b;unfold eqT at e;split at e
  ·rename_i a c hu;have:=A6n hx;have:=A6n hy;subst_vars;injection e with e;subst e;simp[Op.equalIn,A0a w hu]
  ·rename_i k0 j a k c hu
   have:=A2f hx;have:=A2f hy;subst_vars;cases hk:A1n j k with
   | false=>rw[hk]at e;cases e
   | true=>
    rw[hk]at e;injection e with e;subst e
    have:=B2b.1 hk;subst this;simp[Op.equalIn,A0a w hu,A3q]
  ·rename_i a c hu;have:=A4i hx;have:=A4i hy;subst_vars;injection e with e;subst e
   simp[Op.equalIn,A0a w hu,beq_toListBytes,B4r,toList_data]
  ·rename_i el c hu;have:=B2x hx;subst this;injection e with e;subst e
   cases c with
   | none=>have:=B2x hy;subst this;simp[Op.equalIn,A0a w hu]
   | some c=>obtain⟨L,k,_,_,rfl⟩:=A0q hy;simp[Op.equalIn,A0a w hu]
  ·rename_i el a hu;have:=B2x hy;subst this;injection e with e;subst e
   obtain⟨L,k,_,_,rfl⟩:=A0q hx;simp[Op.equalIn,A0a w hu]
  ·rename_i el m c n k q hu;obtain⟨_,_,rfl⟩:=A1x hx;injection e with e;subst e
   cases n with
   | none=>obtain⟨_,_,rfl⟩:=A1x hy;simp[Op.equalIn,A0a w hu]
   | some c=>obtain⟨ad,c,rfl⟩:=B6x hy;simp[Op.equalIn,A0a w hu]
  ·rename_i el a m c n k hu;obtain⟨_,_,rfl⟩:=A1x hy;injection e with e;subst e
   obtain⟨ad,c,rfl⟩:=B6x hx;simp[Op.equalIn,A0a w hu]
  ·rename_i k0 e0 c hu;have:=B7f hx;subst this;injection e with e;subst e
   cases c with
   | none=>have:=B7f hy;subst this;simp[Op.equalIn,A0a w hu]
   | some c=>obtain⟨L,_,rfl⟩:=B3a hy;simp[Op.equalIn,A0a w hu]
  ·rename_i k0 e0 c hu;have:=B7f hy;subst this;injection e with e;subst e
   obtain⟨L,_,rfl⟩:=B3a hx;simp[Op.equalIn,A0a w hu]
  ·rename_i a c q hu;have:=B7t hx;have:=B7t hy;subst_vars;injection e with e;subst e;simp[Op.equalIn,A0a w hu]
  ·rename_i hu;have:=B7t hx;subst this;obtain⟨_,_,rfl,_⟩:=B0i hy;injection e with e;subst e;simp[Op.equalIn,A0a w hu]
  ·rename_i hu;have:=B7t hy;subst this;obtain⟨_,_,rfl,_⟩:=B0i hx;injection e with e;subst e;simp[Op.equalIn,A0a w hu]
  ·rename_i hu;have:=B6a hx;have:=B6a hy;subst_vars;injection e with e;subst e;simp[Op.equalIn,A0a w hu]
  ·rename_i hu;have:=B6a hx;subst this;obtain⟨_,rfl,_⟩:=A64 hy;injection e with e;subst e;simp[Op.equalIn,A0a w hu]
  ·rename_i hu;have:=B6a hy;subst this;obtain⟨_,rfl,_⟩:=A64 hx;injection e with e;subst e;simp[Op.equalIn,A0a w hu]
  ·rename_i ms t1 a t2 c hu
   obtain⟨a',rfl,ha⟩:=A64 hx;obtain⟨c',rfl,hc⟩:=A64 hy;rw[A1b,Bool.cond_decide]at e;split at e
   ·rename_i ht
    subst ht;obtain⟨i,hi,e1⟩:=Option.bind_eq_some_iff.1 e;cases hcmp:i.comparable with
    | false=>rw[hcmp]at e1;cases e1
    | true=>
     rw[hcmp]at e1;simp only[cond_true]at e1;have:=ih w t1 a c a' c' b ha hc e1;simp[Op.equalIn,A0a w hu,A28 w hi,hcmp,this]
   ·rename_i ht
    injection e with e
    subst e;simp[Op.equalIn,A0a w hu,ht]
  ·rename_i fs xs ys hu
   obtain⟨xs',rfl,hxs⟩:=A8m hx;obtain⟨ys',rfl,hys⟩:=A8m hy;cases hst:P.stoodInHeld t with
   | true=>rw[hst]at e;cases e
   | false=>
    rw[hst]at e;simp only[cond_false]at e;have hfs:P.fieldsOf t=fs:=by simp[Program.fieldsOf,hu]
    rw[run_equalIn_struct w D t _ _ (by rw[hfs];exact hu) hst,hfs];exact A15 ih w hxs hys e
  ·rename_i len el xs ys hu
   obtain⟨xs',rfl,hxs⟩:=A8m hx;obtain⟨ys',rfl,hys⟩:=A8m hy;obtain⟨n,hn,e1⟩:=Option.bind_eq_some_iff.1 e;obtain⟨i,hi,hcell⟩:=cellsOf_size hn;rw[run_equalIn_array w D _ _ hu hi,hcell];exact B7r ih w el n hxs hys e1
  ·cases e
theorem aeq_ok{t:TypeId}{const:Bool}{a a' c c':Value}{b:Bool}(ha:VRel ρ a a')(hc:VRel ρ c c')(e:aeq P t const a c=some b):(Op.equal t a' c').run P w=.ok b w:=by
 unfold aeq at e;cases hm:B8z P t const a c with
 | false=>rw[hm]at e;cases e
 | true=>rw[hm]at e;exact eqT_ok (P:=P) (ρ:=ρ) A1g 10000 (by decide) w t a c a' c' b ha hc e
def tag:Value→Nat
 | .bool _=>0 | .int _ _=>1 | .float _ _=>2 | .complex _ _ _=>3 | .string _=>4 | .pointer _=>5 | .slice _ _ _=>6 | .map _=>7 | .chan _=>8
 | .func _ _ _=>9 | .nilFunc=>10 | .iface _ _=>11 | .nilIface=>12 | .agg _=>13 | .tuple _=>14
theorem VRel.tag{v u:Value}(hv:VRel ρ v u):Sh.tag v=Sh.tag u:=by
 cases v with
 | pointer p=>cases p with
  | none=>have:=B2x hv;subst this;rfl
  | some p=>obtain⟨_,_,_,_,rfl⟩:=A0q hv;rfl
 | slice p m k=>cases p with
  | none=>obtain⟨_,_,rfl⟩:=A1x hv;rfl
  | some p=>obtain⟨_,_,rfl⟩:=B6x hv;rfl
 | map p=>cases p with
  | none=>have:=B7f hv;subst this;rfl
  | some p=>obtain⟨_,_,rfl⟩:=B3a hv;rfl
 | chan p=>unfold VRel at hv;exact hv.elim
 | func f x y=>obtain⟨_,_,rfl,_⟩:=B0i hv;rfl
 | iface t x=>obtain⟨_,rfl,_⟩:=A64 hv;rfl
 | agg x=>obtain⟨_,rfl,_⟩:=A8m hv;rfl
 | tuple x=>obtain⟨_,rfl,_⟩:=C7p hv;rfl
 | _=>unfold VRel at hv;subst hv;rfl
theorem C9n{t:TypeId}{const:Bool}{op:BinOp}{x y:Operand}{a a' c c':Value}{b:Bool}(hcon:const=true→(∃v,x=.const v)∨∃v,y=.const v)(ha:VRel ρ a a')(hc:VRel ρ c c')(e:aeq P t const a c=some b):
  (eqGuard op t x y a' c').run P w=.ok () w:=by
 unfold aeq at e;cases hm:B8z P t const a c with
 | false=>rw[hm]at e;cases e
 | true=>
  clear e;unfold B8z at hm;split at hm
  ·have:=B6a ha;have:=B6a hc;subst_vars
   rcases hcon rfl with⟨v,rfl⟩|⟨v,rfl⟩<;>cases op<;>simp[eqGuard]
  ·obtain⟨_,rfl,_⟩:=A8m ha
   obtain⟨_,rfl,_⟩:=A8m hc;exact run_eqGuard_agg w op t x y _ _ (by simpa using hm)
  ·rename_i h1 h2
   have ta:=ha.tag;have tc:=hc.tag;have k12:∀{v:Value},Sh.tag v=12→v=.nilIface:=by intro v h;cases v<;>simp[Sh.tag]at h;rfl
   have k13:∀{v:Value},Sh.tag v=13→∃q,v=.agg q:=by intro v h;cases v<;>simp[Sh.tag]at h;exact⟨_,rfl⟩
   unfold eqGuard;split
   case h_3=>rfl
   all_goals
    simp only[Bool.not_true,Bool.false_eq_true,if_false];split
    ·exact absurd (k12 tc) (fun e2=>h1 (k12 ta) e2)
    ·obtain⟨p,hp⟩:=k13 ta
     obtain⟨q,hq⟩:=k13 tc;exact absurd hq (fun e2=>h2 _ _ hp e2)
    ·rfl
theorem C00{t:TypeId}{op:BinOp}{x y:Operand}{j k:IntKind}{a b:Int}:(eqGuard op t x y (.int j a) (.int k b)).run P w=.ok () w:=by cases op<;>simp[eqGuard]
theorem D6a{t:TypeId}{op:BinOp}{x y:Operand}{a b:ByteArray}:(eqGuard op t x y (.string a) (.string b)).run P w=.ok () w:=by cases op<;>simp[eqGuard]
theorem vint{k:IntKind}{n:Int}:VRel ρ (.int k n) (.int k n):=by unfold VRel;rfl
theorem B36{b:Bool}:VRel ρ (.bool b) (.bool b):=by unfold VRel;rfl
theorem vstr{s:ByteArray}:VRel ρ (.string s) (.string s):=by unfold VRel;rfl
theorem ltd(a b:Int):decide (a<b)=!decide (b≤a):=by rw[Bool.eq_iff_iff];simp
theorem aint_ok{t:TypeId}{op:BinOp}{j:IntKind}{a b:Int}{v:Value}(h1:op≠.shl)(h2:op≠.shr)(e:aint op j a b=some v):(binOp op t (.int j a) (.int j b)).run P w=.ok v w∧VRel ρ v v:=by
 have hdiv:∀{x:Value},(bif B4d b 0 then none else some x)=some v→b≠0∧x=v:=by
  intro x h;rw[A3q]at h;cases hz:(b == 0) with
  | true=>rw[hz]at h;cases h
  | false=>rw[hz]at h;injection h with h;exact⟨by simpa using hz,h⟩
 cases op<;>simp only[aint]at e<;>first
  | (cases e;done)
  | exact absurd rfl h1
  | exact absurd rfl h2
  | (obtain⟨hb,rfl⟩:=hdiv e;exact⟨by simp[binOp,Op.intDiv,hb],vint⟩)
  | (injection e with e;subst e;exact⟨by simp[binOp,Op.intArith,Op.intBits,Op.intCmp,A3q,A7k,bne,ltd],by first|exact vint|exact B36⟩)
theorem B44{t:TypeId}{left:Bool}{j k:IntKind}{a b:Int}{v:Value}(e:A4j left j a b=some v):(binOp (if left=true then .shl else .shr) t (.int j a) (.int k b)).run P w=.ok v w∧VRel ρ v v:=by
 unfold A4j at e;rw[A7k,Bool.cond_decide]at e;split at e
 ·rename_i hb
  injection e with e
  subst e;have hb':¬ b<0:=by omega
  cases left
  ·exact⟨by simp[binOp,Op.shift,hb'],vint⟩
  ·exact⟨by simp[binOp,Op.shift,hb'],vint⟩
 ·cases e
theorem astr_ok{t:TypeId}{op:BinOp}{a b:ByteArray}{v:Value}(e:astr op a b=some v):(binOp op t (.string a) (.string b)).run P w=.ok v w∧VRel ρ v v:=by
 cases op<;>simp only[astr]at e<;>first
  | (cases e;done)
  | (injection e with e;subst e;exact⟨by simp[binOp,Op.stringOp,toList_data,B4r,B7n],B36⟩)
  | (rw [A0c, Bool.cond_decide] at e
     split at e
     · rename_i hl
       injection e with e
       subst e;have hm : ¬ (((a.size + b.size : Nat) : Int) > IntKind.i64.max) := by
         have : IntKind.i64.max = 9223372036854775807 := by decide
         rw[this];omega
       have hcat : a ++ b = ⟨(a.data.toList ++ b.data.toList).toArray⟩ := by
         apply ByteArray.ext;apply Array.ext';simp[ByteArray.data_append]
       refine⟨?_, vstr⟩;simp only[binOp, Op.stringOp, Sem.run_ite];rw[if_neg hm, hcat];rfl
     · cases e)
theorem bin_ok{t:TypeId}{const:Bool}{op:BinOp}{x y:Operand}{a a' c c' v:Value}(hcon:const=true→(∃v,x=.const v)∨∃v,y=.const v)(ha:VRel ρ a a')(hc:VRel ρ c c')(e:abin P t const op a c=some v):
  ∃v',(do eqGuard op t x y a' c';binOp op t a' c':Sem Value).run P w=.ok v' w∧VRel ρ v v':=by
 unfold abin at e;split at e
 ·rename_i j m k n
  have:=A2f ha;have:=A2f hc;subst_vars;simp only[Sem.run_bind,C00,Result.andThen_ok];split at e
  ·obtain⟨h1,h2⟩:=B44 (P:=P) (ρ:=ρ) (w:=w) (t:=t) (k:=k) e;exact⟨v,h1,h2⟩
  ·obtain⟨h1,h2⟩:=B44 (P:=P) (ρ:=ρ) (w:=w) (t:=t) (k:=k) e;exact⟨v,h1,h2⟩
  ·rename_i n1 n2
   cases hk:A1n j k with
   | false=>rw[hk]at e;cases e
   | true=>
    rw[hk]at e;have:=B2b.1 hk;subst this;obtain⟨h1,h2⟩:=aint_ok (P:=P) (ρ:=ρ) (w:=w) (t:=t) (fun h=>n1 h) (fun h=>n2 h) e;exact⟨v,h1,h2⟩
 ·have:=A4i ha;have:=A4i hc;subst_vars
  simp only[Sem.run_bind,D6a,Result.andThen_ok];obtain⟨h1,h2⟩:=astr_ok (P:=P) (ρ:=ρ) (w:=w) (t:=t) e;exact⟨v,h1,h2⟩
 ·rename_i n1 n2
  have ta:=ha.tag;have tc:=hc.tag;have k1:∀{v:Value},Sh.tag v=1→∃k n,v=.int k n:=by intro v h;cases v<;>simp[Sh.tag]at h;exact⟨_,_,rfl⟩
  have k2:∀{v:Value},Sh.tag v=2→∃k n,v=.float k n:=by intro v h;cases v<;>simp[Sh.tag]at h;exact⟨_,_,rfl⟩
  have k3:∀{v:Value},Sh.tag v=3→∃k n m,v=.complex k n m:=by intro v h;cases v<;>simp[Sh.tag]at h;exact⟨_,_,_,rfl⟩
  have k4:∀{v:Value},Sh.tag v=4→∃s,v=.string s:=by intro v h;cases v<;>simp[Sh.tag]at h;exact⟨_,rfl⟩
  have noF:∀{k k' n n' b},aeq P t const (.float k n) (.float k' n')≠some b:=by
   intro k k' n n' b h;unfold aeq at h;simp only[B8z,cond_true,A1g,eqT]at h;split at h<;>simp_all
  have noC:∀{k k' n n' m m' b},aeq P t const (.complex k n m) (.complex k' n' m')≠some b:=by
   intro k k' n n' m m' b h;unfold aeq at h;simp only[B8z,cond_true,A1g,eqT]at h;split at h<;>simp_all
  have arm:∀{b:Bool},aeq P t const a c=some b→binOp .eql t a' c'=(do pure (.bool (←Op.equal t a' c')):Sem Value)∧binOp .neq t a' c'=(do pure (.bool (!(←Op.equal t a' c'))):Sem Value):=by
   intro b hb;have t1:¬(Sh.tag a'=1∧Sh.tag c'=1):=by
    rintro⟨q1,q2⟩;obtain⟨k,n,rfl⟩:=k1 (ta.trans q1);obtain⟨k',n',rfl⟩:=k1 (tc.trans q2);exact n1 _ _ _ _ rfl rfl
   have t2:¬(Sh.tag a'=2∧Sh.tag c'=2):=by
    rintro⟨q1,q2⟩;obtain⟨k,n,rfl⟩:=k2 (ta.trans q1);obtain⟨k',n',rfl⟩:=k2 (tc.trans q2);exact noF hb
   have t3:¬(Sh.tag a'=3∧Sh.tag c'=3):=by
    rintro⟨q1,q2⟩;obtain⟨k,n,m,rfl⟩:=k3 (ta.trans q1);obtain⟨k',n',m',rfl⟩:=k3 (tc.trans q2);exact noC hb
   have t4:¬(Sh.tag a'=4∧Sh.tag c'=4):=by
    rintro⟨q1,q2⟩;obtain⟨s,rfl⟩:=k4 (ta.trans q1);obtain⟨s',rfl⟩:=k4 (tc.trans q2);exact n2 _ _ rfl rfl
   clear hb ha hc ta tc n1 n2 noF noC e;constructor
   ·cases a' <;> cases c' <;> first
      | rfl
      | exact absurd ⟨rfl, rfl⟩ t1
      | exact absurd ⟨rfl, rfl⟩ t2
      | exact absurd ⟨rfl, rfl⟩ t3
      | exact absurd ⟨rfl, rfl⟩ t4
   ·cases a' <;> cases c' <;> first
      | rfl
      | exact absurd ⟨rfl, rfl⟩ t1
      | exact absurd ⟨rfl, rfl⟩ t2
      | exact absurd ⟨rfl, rfl⟩ t3
      | exact absurd ⟨rfl, rfl⟩ t4
  split at e
  ·obtain⟨b,hb,rfl⟩:=Option.map_eq_some_iff.1 e
   refine⟨.bool b,?_,B36⟩;simp[C9n (op:=.eql) (x:=x) (y:=y) hcon ha hc hb,(arm hb).1,aeq_ok (w:=w) ha hc hb]
  ·obtain⟨b,hb,rfl⟩:=Option.map_eq_some_iff.1 e
   refine⟨.bool !b,?_,B36⟩;simp[C9n (op:=.neq) (x:=x) (y:=y) hcon ha hc hb,(arm hb).2,aeq_ok (w:=w) ha hc hb]
  ·cases e
end
section
variable {P:Program} {B:Nat} {ρ:Map} {H:AH} {w:World}
theorem B4v(em:Bool)(d:Nat):∀(D:Nat),d≤D→∀(w:World) (t:TypeId) (k k':Value),VRel ρ k k'→keyT P d t k=true→(Instr.checkKey em D t k').run P w=.ok () w:=by
 induction d with
 | zero=>intro D hD w t k k' hk e;cases e
 | succ d IH=>
  intro D hD w t k k' hk e;obtain⟨D,rfl⟩:∃m,D=m+1:=⟨D-1,by omega⟩
  unfold keyT at e;split at e
  ·rename_i fs cs hu
   obtain⟨cs',rfl,hcs⟩:=A8m hk;simp only[Instr.checkKey,Sem.run_bind,A0a w hu,Result.andThen_ok];rw[←Array.forIn_toList];generalize fs.toList=l at e;clear hu
   induction l with
   | nil=>simp
   | cons f l ih=>
    simp only[List.all_cons,Bool.and_eq_true]at e;simp only[List.forIn_cons,Sem.run_bind,Sem.run_ite];by_cases hn:f.name = "_"
    ·rw[if_neg (by simp[hn])]
     simp only[Sem.run_pure,Result.andThen_ok];exact ih e.2
    ·rw[if_pos (by simp[hn])]
     have e1:=e.1;have hn':(f.name == "_")=false:=by simp[hn]
     rw[hn',Bool.false_or]at e1;split at e1
     ·rename_i x hx
      obtain⟨x',rx,vx⟩:=A40 (w:=w) hcs hx;simp only[rx,Result.andThen_ok,IH D (by omega) w f.type x x' vx e1,Sem.run_pure];exact ih e.2
     ·cases e1
  ·rename_i len el cs hu
   obtain⟨cs',rfl,hcs⟩:=A8m hk;split at e
   ·rename_i n hn
    simp only[Instr.checkKey,Sem.run_bind,A0a w hu,Result.andThen_ok];simp only[Std.Legacy.Range.forIn_eq_forIn_range',Std.Legacy.Range.size,Nat.sub_zero,Nat.add_one_sub_one,Nat.div_one];rw[List.range_eq_range']at e;generalize List.range' 0 len=is at e;clear hu
    induction is with
    | nil=>simp
    | cons j is ih=>
     simp only[List.all_cons,Bool.and_eq_true]at e;have e1:=e.1;split at e1
     ·rename_i x hx
      obtain⟨x',rx,vx⟩:=A40 (w:=w) hcs hx;simp only[List.forIn_cons,Sem.run_bind,A0i w hn,Result.andThen_ok,rx,IH D (by omega) w el x x' vx e1,Sem.run_pure];exact ih e.2
     ·cases e1
   ·cases e
  ·cases e
  ·cases e
  ·cases e
  ·cases e
  ·rename_i d0 hA hB hC hD' hE hu
   have key:∃d1,P.underlying t=some d1∧(∀fs,d1≠.struct fs)∧(∀n e,d1≠.array n e)∧(∀ms,d1≠.interface ms):=by
    refine⟨d0,by assumption,?_,?_,?_⟩<;>(intros;intro he;subst he;first|exact hA _ rfl|exact hA _ _ rfl|exact hB _ rfl|exact hB _ _ rfl|exact hC _ rfl|exact hC _ _ rfl|exact hD' _ rfl|exact hD' _ _ rfl|exact hE _ rfl|exact hE _ _ rfl|exact hu _ rfl|exact hu _ _ rfl)
   obtain⟨d1,hu1,hs,ha,hi⟩:=key;simp only[Instr.checkKey,Sem.run_bind,A0a w hu1,Result.andThen_ok];cases d1<;>first
    | exact absurd rfl (hs _)
    | exact absurd rfl (ha _ _)
    | exact absurd rfl (hi _)
    | rfl
theorem C9v{d:TypeDesc}{kt:TypeId}{a c:Value}{b:Bool}(hu:P.underlying kt=some d)(h:Instr.sameNow d a c=some b):(Op.equal kt a c).run P w=.ok b w:=by
 unfold Instr.sameNow at h;split at h
 ·split at h
  ·rename_i hk
   subst hk;injection h with h
   subst h;exact run_equalIn_int w _ _ _ _ _ _ hu
  ·cases h
 ·injection h with h
  subst h;rw[beq_toListBytes];exact run_equalIn_string w _ _ _ _ hu
 ·injection h with h
  subst h;exact run_equalIn_bool' w _ _ _ _ hu
 ·cases h
theorem B2p{d:TypeDesc}{kt:TypeId}{k:Value}(hu:P.underlying kt=some d):∀{l:List MapEntry} {i:Nat} {r:Option (Nat×Value)},Instr.findNow d k l i=some r→(Instr.findAsking kt k l i).run P w=.ok r w
 | [],i,r,h=>by injection h with h;subst h;simp[Instr.findAsking]
 | e :: l,i,r,h=>by
  unfold Instr.findNow at h;unfold Instr.findAsking;cases hs:Instr.sameNow d k e.key with
  | none=>rw[hs]at h;cases h
  | some b=>
   rw[hs]at h;simp only[Sem.run_bind,C9v (w:=w) hu hs,Result.andThen_ok,Sem.run_ite];cases b with
   | true=>injection h with h;subst h;simp
   | false=>simpa using B2p hu h
theorem A5u{d:TypeDesc}{kt:TypeId}{k:Value}{l:List MapEntry}(hu:P.underlying kt=some d):(Instr.findKey kt k l).run P w=(Instr.findAsking kt k l 0).run P w:=by
 unfold Instr.findKey;simp only[Sem.run_bind,A0a w hu,Result.andThen_ok];cases h:Instr.findNow d k l 0 with
 | none=>rfl
 | some r=>rw[B2p hu h];rfl
theorem B4t{kt:TypeId}{k k':Value}(hk:VRel ρ k k'):∀{es:List (Value×Value)} {l:List MapEntry} {i:Nat} {r:Option Nat},VRels ρ (es.map (·.1)) (l.map (·.key))→B6w P kt k es i=some r→
  (∀j,r=some j→i≤j∧∃e,l[j-i]?=some e∧(Instr.findAsking kt k' l i).run P w=.ok (some (j,e.val)) w)∧(r=none→(Instr.findAsking kt k' l i).run P w=.ok none w)
 | [],l,i,r,hr,e=>by
  unfold VRels at hr;have:l=[]:=by cases l with|nil=>rfl|cons a b=>simp at hr
  subst this;injection e with e
  subst e;exact⟨fun j h=>(by cases h),fun _=>by simp[Instr.findAsking]⟩
 | (x,y) :: es,l,i,r,hr,e=>by
  cases l with
  | nil=>simp only[List.map_cons,List.map_nil]at hr;unfold VRels at hr;obtain⟨_,_,h,_⟩:=hr;cases h
  | cons m l=>
   simp only[List.map_cons]at hr;unfold VRels at hr;obtain⟨u,us,h1,h2,h3⟩:=hr;injection h1 with h1 h1'
   subst h1 h1';simp only[B6w]at e;have heq:∀{b},eqT P A1g kt k x=some b→(Op.equal kt k' m.key).run P w=.ok b w:=fun hb=>eqT_ok (P:=P) (ρ:=ρ) A1g 10000 (by decide) w kt k x k' m.key _ hk h2 hb;unfold Instr.findAsking;split at e
   ·rename_i hb
    injection e with e
    subst e;refine⟨fun j hj=>?_,fun h=>by cases h⟩;injection hj with hj
    subst hj;refine⟨Nat.le_refl _,m,by simp,?_⟩;simp[heq hb]
   ·rename_i hb
    obtain⟨g1,g2⟩:=B4t hk h3 e;refine⟨fun j hj=>?_,fun h=>?_⟩
    ·obtain⟨q1,e',q2,q3⟩:=g1 j hj
     refine⟨by omega,e',?_,?_⟩
     ·have:j-i=(j-(i+1))+1:=by omega
      rw[this];simpa using q2
     ·simp[heq hb,q3]
    ·simp[heq hb,g2 h]
   ·cases e
theorem B9n{k k':Value}(h:plainKey k=true)(hk:VRel ρ k k'):k'=k:=by
 have cell:∀{v u:Value},plainCell v=true→VRel ρ v u→u=v:=by
  intro v u hv hr;cases v<;>simp[plainCell]at hv
  ·exact A6n hr
  ·exact A2f hr
  ·exact A4i hr
 have cells:∀{x y:List Value},x.all plainCell=true→VRels ρ x y→y=x:=by
  intro x
  induction x with
  | nil=>intro y _ hr;unfold VRels at hr;exact hr
  | cons a x ih=>
   intro y ha hr;simp only[List.all_cons,Bool.and_eq_true]at ha;unfold VRels at hr;obtain⟨u,us,rfl,h1,h2⟩:=hr;rw[cell ha.1 h1,ih ha.2 h2]
 cases k with
 | agg x=>
  obtain⟨x⟩:=x;obtain⟨y,rfl,hy⟩:=A8m hk;rw[cells h hy]
 | _=>exact cell h hk
theorem B3q(h:HRel B ρ H w){m m':Value}{es:List (Value×Value)}(hm:VRel ρ m m')(e:entries H m=some es):
  (m=.map none∧m'=.map none∧es=[])∨∃g L es' cl,m=.map (some g)∧H.objs.get g=some (.map es)∧ρ g 0=some L∧m'=.map (some L.b)∧w.heap[L.b]?=some (.map es' cl)∧VRels ρ (es.map (·.1)) (es'.toList.map (·.key))∧VRels ρ (es.map (·.2)) (es'.toList.map (·.val)):=by
 unfold entries at e;split at e
 ·have:=B7f hm;subst this;injection e with e;exact .inl ⟨rfl,rfl,e.symm⟩
 ·rename_i g
  obtain⟨L,hL,rfl⟩:=B3a hm;split at e
  ·rename_i es0 hg
   injection e with e
   subst e;obtain⟨es',cl,k1,_,k3,k4⟩:=h.maps _ _ _ hg hL;exact .inr ⟨g,L,es',cl,rfl,hg,hL,rfl,k1,k3,k4⟩
  ·cases e
 ·cases e
theorem A2s{b:Nat}{es:Array MapEntry}{cl:Nat}(h:w.heap[b]?=some (.map es cl)):(getObj b).run P w=.ok (.map es cl) w:=by simp[getObj,Sem.run,h]
theorem A12{b:Nat}{es:Array MapEntry}{cl:Nat}{o:Obj}(h:w.heap[b]?=some (.map es cl)):(setObj b o).run P w=.ok () (setBlock w b o):=by simp[setObj,Sem.run,h,setBlock]
theorem C91(h:HRel B ρ H w){t:TypeId}{m m' k k' v:Value}{ok:Bool}(hm:VRel ρ m m')(hk:VRel ρ k k')(e:A4r P t m k ok H=some v):∃v',(Instr.lookup t m' k' ok).run P w=.ok v' w∧VRel ρ v v':=by
 unfold A4r at e;split at e
 ·rename_i kt el hu
  obtain⟨es,hes,e1⟩:=Option.bind_eq_some_iff.1 e;cases hmk:A9l P kt k with
  | false=>rw[hmk]at e1;cases e1
  | true=>
   rw[hmk]at e1;simp only[cond_true]at e1;obtain⟨i,hi,e2⟩:=Option.bind_eq_some_iff.1 e1;obtain⟨r,hr,e3⟩:=Option.map_eq_some_iff.1 e2;unfold A9l at hmk;simp only[Bool.and_eq_true]at hmk;have hd:∃d,P.underlying kt=some d:=by
    have:=hmk.2;unfold keyT A1g at this;cases hh:P.underlying kt with
    | none=>simp[hh]at this
    | some d=>exact⟨d,rfl⟩
   obtain⟨d,hd⟩:=hd
   have key : ∀ (l : List MapEntry), VRels ρ (es.map (·.1)) (l.map (·.key)) → VRels ρ (es.map (·.2)) (l.map (·.val)) →
       ∃ u, ((do let (v, ok') ← match ← Instr.findKey kt k' l with | some (_, v) => pure (v, true) | none => pure (← zeroValue el, false)
                 pure (if ok then .tuple #[v, .bool ok'] else v) : Sem Value)).run P w = .ok u w ∧ VRel ρ v u := by
     intro l hl1 hl2;obtain⟨g1, g2⟩ := B4t (P := P) (w := w) hk hl1 hi;cases i with
     | none =>
       simp only[found]at hr;obtain⟨z, hz, hr'⟩ := Option.map_eq_some_iff.1 hr;subst hr';refine⟨if ok = true then .tuple #[z, .bool false] else z, ?_, ?_⟩
       · simp[A5u hd, g2 rfl, A7x w hz]
       · subst e3
         have hzr := A00 (ρ := ρ) (A6l hz).1;cases ok with
         | false => exact hzr
         | true =>
           show VRel ρ (.tuple #[z, .bool false]) (.tuple #[z, .bool false]);unfold VRel;exact⟨_, rfl, VRels.cons hzr (VRels.cons B36 VRels.nil)⟩
     | some j =>
       simp only[found]at hr;obtain⟨x, hx, hr'⟩ := Option.map_eq_some_iff.1 hr;subst hr';obtain⟨_, e', q2, q3⟩ := g1 j rfl;rw[Nat.sub_zero]at q2;have hvr : VRel ρ x.2 e'.val := by
         obtain⟨u, p1, p2⟩ := hl2.get (i := j) (v := x.2) (by rw[List.getElem?_map, hx];rfl);rw[List.getElem?_map, q2]at p1;injection p1 with p1
         subst p1;exact p2
       refine⟨if ok = true then .tuple #[e'.val, .bool true] else e'.val, ?_, ?_⟩
       · simp[A5u hd, q3]
       · subst e3
         cases ok with
         | false => exact hvr
         | true =>
           show VRel ρ (.tuple #[x.2, .bool true]) (.tuple #[e'.val, .bool true]);unfold VRel;exact⟨_, rfl, VRels.cons hvr (VRels.cons B36 VRels.nil)⟩
   rcases B3q h hm hes with⟨rfl,rfl,rfl⟩|⟨g,L,es',cl,rfl,hg,hL,rfl,hb,h1,h2⟩
   ·obtain⟨u,k1,k2⟩:=key [] VRels.nil VRels.nil
    refine⟨u,?_,k2⟩;have hck:=B4v (P:=P) (ρ:=ρ) true A1g 10000 (by decide) w kt k k' hk hmk.2;simp only[Sem.run_bind]at k1;simp only[Instr.lookup,Sem.run_bind,A0a w hu,Result.andThen_ok,Sem.run_pure];have hemp:(#[]:Array MapEntry).isEmpty=true:=rfl;rw[hemp,hck];exact k1
   ·obtain⟨u,k1,k2⟩:=key es'.toList h1 h2
    refine⟨u,?_,k2⟩;have hck:=B4v (P:=P) (ρ:=ρ) es'.isEmpty A1g 10000 (by decide) w kt k k' hk hmk.2;simp only[Sem.run_bind]at k1;simp only[Instr.lookup,Sem.run_bind,A0a w hu,Result.andThen_ok,Sem.run_pure,A2s hb,hck];exact k1
 ·cases e
theorem B62{a b:Addr}(h:B5p a b=true):a=b:=by
 unfold B5p at h;simp only[A1b,Bool.and_eq_true,decide_eq_true_eq]at h;obtain⟨⟨h1,h2⟩,h3⟩:=h;obtain⟨b1,o1,s1⟩:=a;obtain⟨b2,o2,s2⟩:=b;simp only at h1 h2 h3;subst h1 h2;cases s1<;>cases s2<;>simp[D8a]at h3
 ·rfl
 ·subst h3;rfl
mutual
theorem C9i:∀{x y:Value},veq x y=true→x=y
 | .bool a,y,h=>by cases y<;>simp[veq]at h;subst h;rfl
 | .int j a,y,h=>by
  cases y<;>simp[veq]at h;rename_i k b;rw[A3q]at h;have h1:=B2b.1 h.1;have h2:a=b:=by simpa using h.2
  subst h1 h2;rfl
 | .string a,y,h=>by
  cases y<;>simp[veq]at h;rename_i b;have h2:=A04.1 h;have:a=b:=by
   apply ByteArray.ext;apply Array.ext';exact h2
  subst this;rfl
 | .pointer a,y,h=>by
  cases y<;>cases a<;>try (simp[veq]at h;done)
  ·rename_i b;cases b<;>simp[veq]at h;rfl
  ·rename_i b a
   cases b with
   | none=>simp[veq]at h
   | some b=>simp only[veq]at h;rw[B62 h]
 | .slice a m c,y,h=>by
  cases y<;>cases a<;>try (simp[veq]at h;done)
  ·rename_i b n d
   cases b with
   | none=>simp only[veq,A1b,Bool.and_eq_true,decide_eq_true_eq]at h;obtain⟨rfl,rfl⟩:=h;rfl
   | some b=>simp[veq]at h
  ·rename_i b n d a
   cases b with
   | none=>simp[veq]at h
   | some b=>simp only[veq,A1b,Bool.and_eq_true,decide_eq_true_eq]at h;obtain⟨⟨h1,rfl⟩,rfl⟩:=h;rw[B62 h1]
 | .map a,y,h=>by
  cases y<;>cases a<;>try (simp[veq]at h;done)
  ·rename_i b;cases b<;>simp[veq]at h;rfl
  ·rename_i b a
   cases b with
   | none=>simp[veq]at h
   | some b=>simp only[veq,A1b,decide_eq_true_eq]at h;subst h;rfl
 | .func f ⟨x⟩ ⟨z⟩,y,h=>by
  cases f<;>cases y<;>try (simp[veq]at h;done)
  rename_i f g q1 q2;obtain⟨q1⟩:=q1;obtain⟨q2⟩:=q2;cases g<;>try (simp[veq]at h;done)
  simp only[veq,A1b,Bool.and_eq_true,decide_eq_true_eq]at h;obtain⟨⟨h1,h2⟩,h3⟩:=h;rw[h1,A99 h2,A99 h3]
 | .nilFunc,y,h=>by cases y<;>simp[veq]at h;rfl
 | .nilIface,y,h=>by cases y<;>simp[veq]at h;rfl
 | .iface t a,y,h=>by
  cases y<;>simp[veq]at h;rw[h.1,C9i h.2]
 | .agg ⟨x⟩,y,h=>by
  cases y<;>simp[veq]at h;rename_i q;obtain⟨q⟩:=q;simp only[]at h;rw[A99 h]
 | .tuple ⟨x⟩,y,h=>by
  cases y<;>simp[veq]at h;rename_i q;obtain⟨q⟩:=q;simp only[]at h;rw[A99 h]
 | .float _ _,y,h=>by cases y<;>simp[veq]at h
 | .complex _ _ _,y,h=>by cases y<;>simp[veq]at h
 | .chan _,y,h=>by cases y<;>simp[veq]at h
theorem A99:∀{x y:List Value},veqs x y=true→x=y
 | [],y,h=>by cases y<;>simp[veqs]at h;rfl
 | a :: x,y,h=>by
  cases y<;>simp[veqs]at h;rw[C9i h.1,A99 h.2]
end
end
section
variable {P:Program} {B:Nat} {ρ:Map} {H:AH} {w:World}
theorem B4m{k:Value}(h:plainKey k=true):Instr.sameBits 10000 k k=true:=by
 have cell:∀{v:Value} (n:Nat),plainCell v=true→Instr.sameBits n v v=true:=by
  intro v n hv;cases v<;>simp[plainCell]at hv<;>simp[Instr.sameBits];rw[beq_toListBytes];simp
 cases k with
 | agg x=>
  obtain⟨x⟩:=x;have hx:x.all plainCell=true:=h;simp only[Instr.sameBits,beq_self_eq_true,Bool.true_and]
  induction x with
  | nil=>rfl
  | cons a x ih=>
   simp only[List.all_cons,Bool.and_eq_true]at hx;simp only[List.zip_cons_cons,List.all_cons,Bool.and_eq_true];exact⟨cell _ hx.1,ih hx.2 hx.2⟩
 | _=>exact cell _ h
theorem VRels.eraseIdx{x y:List Value}(r:VRels ρ x y)(n:Nat):VRels ρ (x.eraseIdx n) (y.eraseIdx n):=by
 induction x generalizing y n with
 | nil=>unfold VRels at r;subst r;simp;exact VRels.nil
 | cons a x ih=>
  unfold VRels at r;obtain⟨u,us,rfl,h1,h2⟩:=r;cases n with
  | zero=>simpa using h2
  | succ n=>simp only[List.eraseIdx_cons_succ];exact VRels.cons h1 (ih h2 n)
theorem map_eraseIdx{α β:Type}(f:α→β):∀(l:List α) (n:Nat),(l.eraseIdx n).map f=(l.map f).eraseIdx n
 | [],n=>by simp
 | a :: l,0=>by simp
 | a :: l,n+1=>by simp[map_eraseIdx f l n]
theorem D3a{kt:TypeId}{k:Value}(h:A9l P kt k=true):plainKey k=true∧keyT P A1g kt k=true∧∃d,P.underlying kt=some d:=by
 unfold A9l at h;simp only[Bool.and_eq_true]at h;refine⟨h.1,h.2,?_⟩;have:=h.2;unfold keyT A1g at this;cases hh:P.underlying kt with
 | none=>simp[hh]at this
 | some d=>exact⟨d,rfl⟩
theorem B2q{kt:TypeId}{k k':Value}{es:List (Value×Value)}{l:List MapEntry}{i:Option Nat}{d:TypeDesc}(hd:P.underlying kt=some d)(hk:VRel ρ k k')(hl:VRels ρ (es.map (·.1)) (l.map (·.key)))(e:B6w P kt k es 0=some i):
  (∀j,i=some j→∃x,l[j]?=some x∧(Instr.findKey kt k' l).run P w=.ok (some (j,x.val)) w)∧(i=none→(Instr.findKey kt k' l).run P w=.ok none w):=by
 obtain⟨g1,g2⟩:=B4t (P:=P) (w:=w) hk hl e;refine⟨fun j hj=>?_,fun h=>by rw[A5u hd];exact g2 h⟩;obtain⟨_,x,q2,q3⟩:=g1 j hj;rw[Nat.sub_zero]at q2;exact⟨x,q2,by rw[A5u hd];exact q3⟩
theorem B57(h:HRel B ρ H w){t:TypeId}{m m' k k' v v':Value}{H':AH}(hm:VRel ρ m m')(hk:VRel ρ k k')(hv:VRel ρ v v')(e:A3g P t m k v H=some H'):
  ∃w',(Instr.mapUpdate t m' k' v').run P w=.ok () w'∧HRel B ρ H' w'∧Trans B H.next ρ w ρ w':=by
 unfold A3g at e;split at e
 ·rename_i kt el g hu
  obtain⟨L,hL,rfl⟩:=B3a hm;split at e
  ·rename_i es hg
   cases hmk:A9l P kt k with
   | false=>rw[hmk]at e;cases e
   | true=>
    rw[hmk]at e;simp only[cond_true]at e;obtain⟨i,hi,e2⟩:=Option.bind_eq_some_iff.1 e;obtain⟨hpk,hkt,d,hd⟩:=D3a hmk;obtain⟨es',cl,k1,_,k3,k4⟩:=h.maps _ _ _ hg hL;have hck:=B4v (P:=P) (ρ:=ρ) false A1g 10000 (by decide) w kt k k' hk hkt;obtain⟨g1,g2⟩:=B2q (w:=w) hd hk k3 hi;have hkk:=B9n hpk hk;subst hkk;cases i with
    | none=>
     injection e2 with e2
     subst e2;obtain⟨r1,r2⟩:=h.set_map hg hL (es1:=es++[(k',v)]) (es'.push { key:=k',val:=v',born:=cl }) (cl+1) (by simpa using VRels.append k3 (VRels.cons hk VRels.nil)) (by simpa using VRels.append k4 (VRels.cons hv VRels.nil));refine⟨_,?_,r1,r2⟩;simp only[Instr.mapUpdate,Sem.run_bind,A0a w hu,Result.andThen_ok,A2s k1,hck,g2 rfl,A12 k1]
    | some j=>
     simp only at e2;obtain⟨x,hx,hrun⟩:=g1 j rfl;cases hj:es[j]? with
     | none=>rw[hj]at e2;cases e2
     | some y=>
      rw[hj]at e2;simp only at e2;cases hveq:veq y.1 k' with
      | false=>rw[hveq]at e2;cases e2
      | true=>
       rw[hveq]at e2;injection e2 with e2
       subst e2;have hyk:=C9i hveq;have hxk:x.key=k':=by
        obtain⟨u,p1,p2⟩:=k3.get (i:=j) (v:=y.1) (by rw[List.getElem?_map,hj];rfl);rw[List.getElem?_map,hx]at p1;injection p1 with p1
        rw[hyk]at p2;have:=B9n hpk p2;rw[←this,←p1]
       have hjl:j<es'.toList.length:=(List.getElem?_eq_some_iff.1 hx).1;have hmod:(es'.modify j fun e=>{ e with key:=k',val:=v' }).toList=es'.toList.set j { x with key:=k',val:=v' }:=by
        apply List.ext_getElem?;intro q;rw[Array.getElem?_toList,Array.getElem?_modify,List.getElem?_set];by_cases hq:j=q
        ·subst hq
         rw[if_pos rfl,if_pos rfl,if_pos hjl];rw[Array.getElem?_toList]at hx;rw[hx];rfl
        ·rw[if_neg hq,if_neg hq];simp
       obtain⟨r1,r2⟩:=h.set_map hg hL (es1:=es.set j (k',v)) (es'.modify j fun e=>{ e with key:=k',val:=v' }) cl
        (by rw[hmod,List.map_set,List.map_set];exact k3.set j hk) (by rw[hmod,List.map_set,List.map_set];exact k4.set j hv)
       refine⟨_,?_,r1,r2⟩;have hold:((es'[j]?).map (·.key)).getD k'=k':=by
        rw[Array.getElem?_toList]at hx;rw[hx];exact hxk
       have hsb:=B4m hpk;have hkts:(Instr.keyThatStays k' k').run P w=.ok k' w:=by simp[Instr.keyThatStays,hsb]
       simp only[Instr.mapUpdate,Sem.run_bind,A0a w hu,Result.andThen_ok,A2s k1,hck,hrun,hold,hkts,A12 k1]
  ·cases e
 ·cases e
theorem C3x(h:HRel B ρ H w){t t':TypeId}{m m' k k':Value}{H':AH}{ts:List TypeId}(hm:VRel ρ m m')(hk:VRel ρ k k')(e:B4l P t m k H=some H'):
  ∃w',(Builtin.delete_ (t :: ts).toArray t' #[m',k']).run P w=.ok undef w'∧HRel B ρ H' w'∧Trans B H.next ρ w ρ w':=by
 unfold B4l at e;split at e
 ·rename_i kt el g hu
  obtain⟨L,hL,rfl⟩:=B3a hm;split at e
  ·rename_i es hg
   cases hmk:A9l P kt k with
   | false=>rw[hmk]at e;cases e
   | true=>
    rw[hmk]at e;simp only[cond_true]at e;obtain⟨i,hi,e2⟩:=Option.bind_eq_some_iff.1 e;obtain⟨hpk,hkt,d,hd⟩:=D3a hmk;obtain⟨es',cl,k1,_,k3,k4⟩:=h.maps _ _ _ hg hL;have hck:=B4v (P:=P) (ρ:=ρ) es'.isEmpty A1g 10000 (by decide) w kt k k' hk hkt;obtain⟨g1,g2⟩:=B2q (w:=w) hd hk k3 hi;cases i with
    | none=>
     injection e2 with e2
     subst e2;obtain⟨r1,r2⟩:=h.set_map hg hL (es1:=es) es' cl k3 k4;refine⟨_,?_,r1,r2⟩;simp[Builtin.delete_,A0a w hu,A2s k1,hck,g2 rfl,A12 k1,undef]
    | some j=>
     injection e2 with e2
     subst e2;obtain⟨x,hx,hrun⟩:=g1 j rfl;obtain⟨r1,r2⟩:=h.set_map hg hL (es1:=es.eraseIdx j) (es'.eraseIdxIfInBounds j) cl (by rw[Array.toList_eraseIdxIfInBounds,map_eraseIdx,map_eraseIdx];exact k3.eraseIdx j) (by rw[Array.toList_eraseIdxIfInBounds,map_eraseIdx,map_eraseIdx];exact k4.eraseIdx j);refine⟨_,?_,r1,r2⟩;simp[Builtin.delete_,A0a w hu,A2s k1,hck,hrun,A12 k1,undef]
  ·cases e
 ·cases e
theorem un_ok{op:UnOp}{x x' v:Value}(hx:VRel ρ x x')(e:aun op x=some v):∃v',(Op.unary op x').run P w=.ok v' w∧VRel ρ v v':=by
 unfold aun at e;split at e
 ·have:=A2f hx;subst this;injection e with e;subst e;exact⟨_,by simp[Op.unary,Op.intArith],vint⟩
 ·have:=A6n hx;subst this;injection e with e;subst e;exact⟨_,by simp[Op.unary],B36⟩
 ·cases e
theorem C2r{need cap bytes:Nat}(h:cap<need)(hb:need*bytes≤70368744177664):Builtin.nextslicecap need cap*bytes≤281474976710656:=by
 have step:∀(r c:Nat),c≤2*need→(256≤need)→Builtin.growBy need r c≤3*need:=by
  intro r
  induction r with
  | zero=>intro c hc h2;simp only[Builtin.growBy];omega
  | succ r ih=>
   intro c hc h2;simp only[Builtin.growBy];split
   ·omega
   ·rename_i hlt
    exact ih _ (by omega) h2
 have key:Builtin.nextslicecap need cap≤3*need:=by
  unfold Builtin.nextslicecap;split
  ·omega
  ·split
   ·omega
   ·exact step 4 cap (by omega) (by omega)
 have h1:Builtin.nextslicecap need cap*bytes≤3*need*bytes:=Nat.mul_le_mul_right _ key;have h2:3*need*bytes=3*(need*bytes):=Nat.mul_assoc ..;omega
theorem src_ok(h:HRel B ρ H w){s n:Nat}{tx:TypeId}{x x':Value}{new:List Value}(hx:VRel ρ x x')(hk:srcKind P tx x=true)(e:newCells s H x=some (n,new)):
  ∃us:List Value,Src P s tx x' n us w∧VRels ρ new us∧(∀v∈new,isCell v=true):=by
 unfold newCells at e;unfold srcKind at hk;split at e
 ·rename_i k c
  obtain⟨h1,h2,rfl⟩:=A1x hx;subst h1;simp only[A1b,Bool.cond_decide,if_true,Option.some.injEq,Prod.mk.injEq]at e;obtain⟨rfl,rfl⟩:=e;split at hk
  ·rename_i e' _ _ _ hu _
   exact⟨[],Src.ofNil w hu 0,VRels.nil,fun v hv=>(by cases hv)⟩
  ·rename_i hh;cases hh
  ·cases hk
 ·rename_i a k c
  rcases A2x hx with⟨L,q,o,cap',h1,h2,rfl,h4,h5,h6⟩|⟨rfl,rfl,ad,rfl⟩
  rotate_left
  ·split at hk
   ·rename_i e' _ _ _ hu _
    simp only[A1b,Bool.cond_decide,if_true,Option.some.injEq,Prod.mk.injEq]at e;obtain⟨rfl,rfl⟩:=e;exact⟨[],Src.ofSlice w hu _ 0 0 [] (by simp) (fun j u hj=>by simp at hj) (fun v hv=>(by cases hv)),VRels.nil,fun v hv=>(by cases hv)⟩
   ·rename_i hh;cases hh
   ·cases hk
  split at hk
  ·rename_i e' _ _ _ hu _
   rw[A1b,Bool.cond_decide]at e;split at e
   ·rename_i hk0
    subst hk0;simp only[Option.some.injEq,Prod.mk.injEq]at e;obtain⟨rfl,rfl⟩:=e;exact⟨[],Src.ofSlice w hu _ 0 cap' [] (by simp) (fun j u hj=>by simp at hj) (fun v hv=>(by cases hv)),VRels.nil,fun v hv=>(by cases hv)⟩
   ·rename_i hk0
    obtain⟨l,hl,e1⟩:=Option.map_eq_some_iff.1 e;simp only[Prod.mk.injEq]at e1;obtain⟨rfl,rfl⟩:=e1;obtain⟨g1,g2,us,g3,g4⟩:=h.cells hl h1 h2;have ho:o=L.s+a.off:=by
     rcases h6 with h6|h6
     ·exact h6.1
     ·omega
    subst ho;refine⟨us,Src.ofSlice w hu _ k cap' us (by rw[←g3.length];exact g1) (fun j u hj=>by rw[add_plain];exact g4 j u hj) (fun u hu'=>?_),g3,g2⟩;obtain⟨j,hj⟩:=List.mem_iff_getElem?.1 hu';have hjl:j<l.length:=by rw[g3.length];exact(List.getElem?_eq_some_iff.1 hj).1
    obtain⟨u',e1,e2⟩:=g3.get (List.getElem?_eq_getElem hjl);rw[hj]at e1;injection e1 with e1
    subst e1;exact(e2.isCell (g2 _ (List.getElem_mem _))).1
  ·rename_i hh;cases hh
  ·cases hk
 ·rename_i b
  have:=A4i hx;subst this;split at hk
  ·rename_i hh;cases hh
  ·rename_i s' hu hh
   rw[A1b,Bool.cond_decide]at e;split at e
   case isFalse=>cases e
   rename_i hs1;subst hs1;simp only[Option.some.injEq,Prod.mk.injEq]at e;obtain⟨rfl,rfl⟩:=e;refine⟨byteCells b,Src.ofString w hu b,VRels.of rfl (fun i v hv=>⟨v,hv,?_⟩),?_⟩
   ·rw[List.getElem?_map]at hv
    obtain⟨y,_,rfl⟩:=Option.map_eq_some_iff.1 hv;exact vint
   ·intro v hv
    obtain⟨y,_,rfl⟩:=List.mem_map.1 hv;rfl
  ·cases hk
 ·cases e
theorem A0v:∀(us:List Value) {w:World} {b:Nat} {c:Array Value} {el:TypeId} {fr:Nat×Nat} (o:Nat),w.heap[b]?=some (.cells c el fr)→w.setCells b o us=setBlock w b (.cells (Sh.setCells c.toList o us).toArray el fr)
 | [],w,b,c,el,fr,o,h=>by
  simp only[World.setCells,Sh.setCells,Array.toArray_toList];exact(A38 h).symm
 | u :: us,w,b,c,el,fr,o,h=>by
  have hb:=(Array.getElem?_eq_some_iff.1 h).1;simp only[World.setCells];rw[A75 h,A0v us (o+1) (A8j w _ hb),A9v];simp[Sh.setCells]
theorem B0n(z:Array Value)(n:Nat):(Builtin.zeroCells z n).size=n*z.size:=by simp[Builtin.zeroCells]
theorem B82{H:AH}{a:Addr}{rs:List Row}{rw:Bool}{q n:Nat}{r:Row}{vs:List Value}(hga:H.objs.get a.block=some (.rows rs rw))(q1:a.spot=some q)(hr:rs[q]?=some r)(hold:H.cells a n=some vs):r.ok=true:=by
 unfold AH.cells at hold;cases hrow:H.row? a with
 | none=>rw[hrow]at hold;cases hold
 | some r'=>
  obtain⟨rs',rw',k',z1,z2,z3,z4⟩:=AH.row?_some hrow;rw[hga]at z1;injection z1 with z1
  injection z1 with z1 _
  subst z1;rw[q1]at z2;injection z2 with z2
  subst z2;rw[hr]at z3;injection z3 with z3
  subst z3;exact z4
theorem B46{ρ:Map}{g k q n:Nat}{L L0:Loc}(q2:ρ g q=some L0){g' k':Nat}{L':Loc}(e:(ρ.add g k L) g' k'=some L'):ρ g' k'=some L'∨n≤g'∨∃k'' L'',ρ g' k''=some L'':=by
 by_cases x:g'=g∧k'=k
 ·obtain⟨rfl,rfl⟩:=x
  exact .inr (.inr ⟨_,_,q2⟩)
 ·rw[Map.add_other _ _ x]at e
  exact .inl e
structure Box(p:Prop):Prop where out:p
theorem grow_row(h:HRel B ρ H w){t t' t'' el:TypeId}{i:TypeInfo}{a:Addr}{L:Loc}{q o len n cap':Nat}{x':Value}{rs:List Row}{r:Row}{old olds new us:List Value}
  (hga:H.objs.get a.block=some (.rows rs true)) (q1:a.spot=some q) (hr:rs[q]?=some r) (hrok:r.ok=true) (hesz:r.esz=i.size) (q2:ρ a.block q=some L)
  (k1:old.length=len*i.size) (k2:∀v∈old,isCell v=true) (k3:VRels ρ old olds) (k4:∀(j:Nat) (u:Value),olds[j]?=some u→w.cell? ⟨L.b,L.s+a.off+j,none⟩=some u)
  (hus:VRels ρ new us) (hcell:∀v∈new,isCell v=true) (hsrc:Src P i.size t' x' n us w) (hu:P.underlying t=some (.slice el)) (hi:P.info? el=some i)
  (q4:len≤cap') (q6:(o=L.s+a.off∧o+cap'*L.e≤L.n)∨(len=0∧cap'=0)) (hn0:¬ n=0)
  (grown : Box (cap' < len + n → ∃ c : Array Value, (Builtin.append_ #[t, t'] t'' #[.slice (some ⟨L.b, o, none⟩) len cap', x']).run P w = .ok (.slice (some ⟨w.heap.size, 0, none⟩) (len + n) (grownCap w (len + n) cap' el)) (w.drew.alloc (.cells c el)) ∧
        c.size = grownCap w (len + n) cap' el*i.size ∧ len + n ≤ grownCap w (len + n) cap' el ∧ (old ++ new).length ≤ c.size ∧ (∀(j : Nat) (v : Value), (old ++ new)[j]? = some v → ∃u, c[j]? = some u ∧ VRel ρ v u))) :
  ∃w' ρ' v',(Builtin.append_ #[t,t'] t'' #[.slice (some ⟨L.b,o,none⟩) len cap',x']).run P w=.ok v' w'∧VRel ρ' (.slice (some ⟨a.block,0,some rs.length⟩) (len+n) (len+n+big)) v'∧
   HRel B ρ' (H.put a.block (.rows (A6e (r.pos+a.off+len*i.size) (r.pos+a.off+len*i.size+n*i.size) rs.length r 0 rs++[{ pos:=r.pos+a.off,esz:=i.size,vals:=old++new,ok:=true }]) true)) w'∧Trans B H.next ρ w ρ' w':=by
 have hnl:=hsrc.newsLen;have hlt:=(h.lt _ _ _ q2).2;have hlenO:=k3.length;have hlenN:=hus.length;have hnone:ρ a.block rs.length=none:=by
  cases hh:ρ a.block rs.length with
  | none=>rfl
  | some L'=>have:=h.short _ _ _ hga _ _ hh;omega
 have hleft : ∀ (j : Nat) rj, j < rs.length → (A6e (r.pos + a.off + len * i.size) (r.pos + a.off + len * i.size + n * i.size) rs.length r 0 rs ++ [({ pos := r.pos + a.off, esz := i.size, vals := old ++ new, ok := true } : Row)])[j]? = some rj → rj.ok = true →
     rs[j]? = some rj ∧ ¬(rj.pos<r.pos + a.off + len*i.size + n*i.size ∧ r.pos + a.off + len*i.size<rj.pos + rj.vals.length) := by
   intro j rj hj hg hok;rw[List.getElem?_append_left (by rw[A9d];exact hj), A7l, Nat.zero_add]at hg;obtain⟨r0, e0, e1⟩ := Option.map_eq_some_iff.1 hg;rw[if_neg (by omega)]at e1;split at e1
   · subst e1;simp at hok
   · rename_i hc
     subst e1;exact⟨e0, fun hx => hc ((B5r _ _ _).2 hx)⟩
 have hnew:(A6e (r.pos+a.off+len*i.size) (r.pos+a.off+len*i.size+n*i.size) rs.length r 0 rs++[({ pos:=r.pos+a.off,esz:=i.size,vals:=old++new,ok:=true }:Row)])[rs.length]?=some { pos:=r.pos+a.off,esz:=i.size,vals:=old++new,ok:=true }:=by
  rw[List.getElem?_append_right (by rw[A9d];exact Nat.le_refl _),A9d];simp
 have hlong:rs.length≤(A6e (r.pos+a.off+len*i.size) (r.pos+a.off+len*i.size+n*i.size) rs.length r 0 rs++[({ pos:=r.pos+a.off,esz:=i.size,vals:=old++new,ok:=true }:Row)]).length:=by
  rw[List.length_append,A9d];omega
 generalize hrs':(A6e (r.pos+a.off+len*i.size) (r.pos+a.off+len*i.size+n*i.size) rs.length r 0 rs++[({ pos:=r.pos+a.off,esz:=i.size,vals:=old++new,ok:=true }:Row)])=rs' at *;clear hrs';have hB:=h.blur hga (rs':=rs') hlong (fun j rj hj hg hok=>(hleft j rj hj hg hok).1) (fun j rj r0 hg h0 hok=>by
  have hj:=(List.getElem?_eq_some_iff.1 h0).1;have:=(hleft j rj hj hg hok).1;rw[h0]at this;injection this with this
  exact this.symm)
 have hgB:(H.put a.block (.rows rs' true)).objs.get a.block=some (.rows rs' true):=by rw[A1f,if_pos rfl]
 have share : ∀ g' rs1 rw1, (H.put a.block (.rows rs' true)).objs.get g' = some (.rows rs1 rw1) → ∀ (k' : Nat) r' L', rs1[k']? = some r' → ρ g' k' = some L' → L'.b = L.b →
     g' = a.block ∧ rs1 = rs' ∧ k'<rs.length ∧ (r'.ok = true → rs[k']? = some r' ∧ L.s + r'.pos = L'.s + r.pos ∧ ¬(r'.pos<r.pos + a.off + len*i.size + n*i.size ∧ r.pos + a.off + len*i.size<r'.pos + r'.vals.length)) := by
   intro g' rs1 rw1 hg' k' r' L' hk' hL' hb;rw[A1f]at hg';by_cases hgg : g' = a.block
   · subst hgg
     rw[if_pos rfl]at hg';injection hg' with hg'
     injection hg' with z1 z2
     subst z1;have hk'' := h.short _ _ _ hga _ _ hL';refine⟨rfl, rfl, hk'', fun hok => ?_⟩;obtain⟨z3, z4⟩ := hleft k' r' hk'' hk' hok;have := (h.apart _ _ _ _ _ _ hga hga (.inl rfl) _ _ _ _ _ _ hr z3 q2 hL' hb.symm).2 hrok hok;exact⟨z3, this, z4⟩
   · rw[if_neg hgg]at hg'
     exact absurd (h.apart _ _ _ _ _ _ hga hg' (.inl rfl) _ _ _ _ _ _ hr hk' q2 hL' hb.symm).1 (fun z => hgg z.symm)
 by_cases hroom:len+n≤cap'
 ·
  obtain⟨ho,hon⟩:o=L.s+a.off∧o+cap'*L.e≤L.n:=by
   rcases q6 with q6|q6
   ·exact q6
   ·omega
  subst ho;obtain⟨c,el0,fr,g1,g2,g3,g4,g5,g6⟩:=h.rows _ _ _ hga _ _ _ hr hrok q2;obtain⟨gB,gf⟩:=g6 rfl;rw[hesz]at g3;have hmul:(len+n)*i.size≤cap'*i.size:=Nat.mul_le_mul_right _ hroom;have hmul2:(len+n)*i.size=len*i.size+n*i.size:=Nat.add_mul ..;have hcap:L.s+a.off+cap'*i.size≤L.n:=by rw[←g3];exact hon
  have hS:=hB.scribble g1 (L.s+a.off+len*i.size) us (by omega) (fun g' rs1 rw1 hg' k' r' L' hk' hok hL' hb=>by
   obtain⟨_,_,_,z⟩:=share g' rs1 rw1 hg' k' r' L' hk' hL' hb;obtain⟨z1,z2,z3⟩:=z hok;omega)
  have hJ:=hS.join (g:=a.block) (k:=rs.length) (L:=⟨L.b,L.s+a.off,L.n,i.size⟩) hgB hnew hnone (by rw[A5g];exact hlt)
   ⟨_,el0,fr,A8j w _ hlt,by simp[A6f,g2],rfl,by simp only[List.length_append];omega,fun j v hv=>by
    refine⟨by rcases List.mem_append.1 (List.mem_of_getElem? hv) with hv|hv;exact k2 v hv;exact hcell v hv,?_⟩;obtain⟨u,e1,e2⟩:=(VRels.append k3 hus).get hv;refine⟨u,?_,e2⟩;simp only[List.getElem?_toArray];rw[A6g _ _ _ _ (by simp;omega)];by_cases hj:j<len*i.size
    ·rw[if_neg (by omega)]
     rw[List.getElem?_append_left (by omega)]at e1;have:=k4 j u e1;rw[cell_of g1]at this
     simpa using this
    ·rw[List.getElem?_append_right (by omega)]at e1
     have hjl:=(List.getElem?_eq_some_iff.1 e1).1;rw[if_pos (by omega)];have:L.s+a.off+j-(L.s+a.off+len*i.size)=j-olds.length:=by omega
     rw[this];exact e1,fun _=>⟨gB,gf⟩⟩
   (fun g' rs1 rw1 hg' k' r' L' hk' hL' hb=>by
    obtain⟨z0,_,_,z⟩:=share g' rs1 rw1 hg' k' r' L' hk' hL' hb;refine⟨z0,fun _ hok=>?_⟩;obtain⟨z1,z2,z3⟩:=z hok;simp only;omega)
  have hrun:=run_append_room_src w t t' t'' el i hu hi L.b (L.s+a.off) len cap' x' n us hsrc hroom
   (fun j hj=>by rw[cell_of g1,Array.getElem?_eq_getElem (by omega)];rfl) (fun j hj=>by
    unfold World.frozen?;rw[g1];have:=gf (L.s+a.off+len*i.size+j) (by omega);simp only[Bool.and_eq_false_iff,decide_eq_false_iff_not];by_cases hh:fr.1≤L.s+a.off+len*i.size+j
    ·exact .inr (by omega)
    ·exact .inl hh)
  rw[A0v us _ g1]at hrun;refine⟨_,_,_,hrun,?_,hJ,?_⟩
  ·unfold VRel
   refine .inl ⟨_,rs.length,L.s+a.off,cap',rfl,Map.add_same _ _ _ _,rfl,by omega,.inr ⟨by omega,by omega⟩,.inl ⟨rfl,?_⟩⟩
   simpa using hcap
  ·refine⟨Map.le_add hnone,fun g' k' L' e=>?_,fun g' k' L' e=>?_,rfl,rfl,rfl,by rw[A5g];exact Nat.le_refl _,fun b hb hn=>A6h w _ ?_⟩
   ·by_cases x:g'=a.block∧k'=rs.length
    ·obtain⟨rfl,rfl⟩:=x
     rw[Map.add_same]at e;injection e with e
     subst e;exact .inr (.inr ⟨_,_,_,q2,rfl⟩)
    ·rw[Map.add_other _ _ x]at e
     exact .inl e
   ·exact B46 q2 e
   ·rcases hn with hn|hn
    ·omega
    ·exact fun e=>hn _ _ _ q2 e.symm
 ·
  obtain⟨c,r1,r2,r3,r4,r5⟩:=grown.out (by omega);have hJ:=((hB.drew (w.drawn+1)).alloc_any (.cells c el)).join (g:=a.block) (k:=rs.length) (L:=⟨w.heap.size,0,c.size,i.size⟩) hgB hnew hnone (by simp)
   ⟨c,el,(0,0),B8t w.drew _,rfl,rfl,by simpa using r4,fun j v hv=>by
    refine⟨by rcases List.mem_append.1 (List.mem_of_getElem? hv) with hv|hv;exact k2 v hv;exact hcell v hv,?_⟩
    simpa using r5 j v hv,fun _=>⟨h.base,fun i hi=>by simp⟩⟩
   (fun g' rs1 rw1 hg' k' r' L' hk' hL' hb=>by
    have:=(h.lt _ _ _ hL').2;simp only at hb;omega)
  refine⟨_,_,_,r1,?_,hJ,?_⟩
  ·unfold VRel
   refine .inl ⟨_,rs.length,0,grownCap w (len+n) cap' el,rfl,Map.add_same _ _ _ _,rfl,r3,.inr ⟨by omega,by omega⟩,.inl ⟨rfl,?_⟩⟩;simp only[Nat.zero_add];rw[r2];exact Nat.le_refl _
  ·refine⟨Map.le_add hnone,fun g' k' L' e=>?_,fun g' k' L' e=>B46 q2 e,rfl,rfl,rfl,by simp,fun b hb hn=>A2q w.drew _ hb⟩
   by_cases x:g'=a.block∧k'=rs.length
   ·obtain⟨rfl,rfl⟩:=x
    rw[Map.add_same]at e;injection e with e
    subst e;exact .inr (.inl (Nat.le_refl _))
   ·rw[Map.add_other _ _ x]at e
    exact .inl e
theorem D2d(h:HRel B ρ H w){t t' t'' el:TypeId}{i:TypeInfo}{z:Value}{base:Option Addr}{len cap n:Nat}{s' x x' v:Value}{new:List Value}{H':AH}
  (hu:P.underlying t=some (.slice el)) (hi:P.info? el=some i) (hz:zeroAt P el=some z) (hk:srcKind P t' x=true) (h1:1≤i.size) (hzl:(A6a z).length=i.size)
  (hs:VRel ρ (.slice base len cap) s') (hx:VRel ρ x x') (hn:newCells i.size H x=some (n,new)) (hb:(len+n)*i.bytes≤70368744177664) (hb2:len+n≤70368744177664) (e:A5d i.size base len cap n new H=some (v,H')):
  ∃w' ρ' v',(Builtin.append_ #[t,t'] t'' #[s',x']).run P w=.ok v' w'∧VRel ρ' v v'∧HRel B ρ' H' w'∧Trans B H.next ρ w ρ' w':=by
 obtain⟨us,hsrc,hus,hcell⟩:=src_ok (P:=P) h hx hk hn;obtain⟨us2,hsrcD,_,_⟩:=src_ok (P:=P) (h.drew (w.drawn+1)) hx hk hn;obtain⟨_,i',hi',hzi⟩:=A6l hz;rw[hi]at hi';injection hi' with hi'
 subst hi';have hzs:z.cells.size=i.size:=by rw[←Array.length_toList,←(A41 (ρ:=ρ) hz).length];exact hzl
 unfold A5d at e;rw[A1b,Bool.cond_decide]at e;split at e
 ·
  rename_i hn0;subst hn0;simp only[Option.some.injEq,Prod.mk.injEq]at e;obtain⟨rfl,rfl⟩:=e;have hus0:us=[]:=List.eq_nil_of_length_eq_zero (by rw[hsrc.newsLen,Nat.zero_mul]);subst hus0;cases base with
  | none=>
   obtain⟨rfl,rfl,rfl⟩:=A1x hs;refine⟨w,ρ,.slice none 0 0,?_,hs,h,Trans.refl _ _ _ _⟩;rcases hsrc.kind with⟨e',hk'⟩|hk'<;>simp[Builtin.append_,A0a w hu,A0a w hk',sizeOf,typeInfo,hi,hsrc.len,hsrc.cells]
  | some a=>
   rcases A2x hs with⟨L,q,o,cap',q1,q2,rfl,q4,q5,q6⟩|⟨rfl,rfl,ad,rfl⟩
   rotate_left
   ·refine⟨w,ρ,.slice (some ad) 0 0,?_,hs,h,Trans.refl _ _ _ _⟩
    have hst:(storeCells (ad.add 0) []).run P w=.ok () w:=by simp[storeCells]
    rcases hsrc.kind with⟨e',hk'⟩|hk'<;>simp[Builtin.append_,A0a w hu,A0a w hk',sizeOf,typeInfo,hi,hsrc.len,hsrc.cells,hst]
   refine⟨w,ρ,.slice (some ⟨L.b,o,none⟩) len cap',?_,hs,h,Trans.refl _ _ _ _⟩;rw[run_append_room_src w t t' t'' el i hu hi L.b o len cap' x' 0 [] hsrc q4 (fun j hj=>by simp at hj) (fun j hj=>by simp at hj)];rfl
 ·rename_i hn0
  have grown : ∀ {base' : Option Addr} {cap' : Nat} {old olds : List Value}, VRels ρ old olds → (∀ v ∈ old, isCell v = true) → old.length = len * i.size → cap' < len + n →
      (Builtin.firstCells i.size len (.slice base' len cap')).run P w.drew = .ok olds.toArray w.drew →
      ∃c : Array Value, (Builtin.append_ #[t, t'] t'' #[.slice base' len cap', x']).run P w = .ok (.slice (some ⟨w.heap.size, 0, none⟩) (len + n) (grownCap w (len + n) cap' el)) (w.drew.alloc (.cells c el)) ∧
        c.size = grownCap w (len + n) cap' el*i.size ∧ len + n ≤ grownCap w (len + n) cap' el ∧ (old ++ new).length ≤ c.size ∧ (∀(j : Nat) (v : Value), (old ++ new)[j]? = some v → ∃u, c[j]? = some u ∧ VRel ρ v u) := by
    intro base' cap' old olds hold hoc hol hcap hfirst;have hge := grownCap_ge w (len + n) cap' el;have hlen1 := hold.length;have hlen2 := hus.length;have hnl := hsrc.newsLen;refine⟨(olds ++ us).toArray ++ Builtin.zeroCells z.cells (grownCap w (len + n) cap' el-(len + n)), run_append_grow_src w t t' t'' el i z hu hi hzi base' len cap' olds hfirst x' n us hsrc hcap (by omega) (C2r hcap hb), ?_, hge, ?_, ?_⟩
    · rw[Array.size_append, B0n, hzs]
      simp only[List.size_toArray, List.length_append];rw[←hlen1, hol, hnl, ←Nat.add_mul, ←Nat.add_mul]
      congr 1
      omega
    · rw[Array.size_append]
      simp only[List.size_toArray, List.length_append];omega
    · intro j v hj
      obtain⟨u, e1, e2⟩ := (VRels.append hold hus).get hj;refine⟨u, ?_, e2⟩;have hjl := (List.getElem?_eq_some_iff.1 e1).1;rw[Array.getElem?_append_left (by simpa using hjl)]
      simpa using e1
  have lit63:len+n+big-big=len+n:=by omega
  cases base with
  | none=>
   simp only at e;obtain⟨h0,h0',rfl⟩:=A1x hs;subst h0 h0';simp only[A1b,decide_true,Bool.and_self,cond_true,Option.some.injEq,Prod.mk.injEq]at e;obtain⟨rfl,rfl⟩:=e;obtain⟨c,r1,r2,r3,r4,r5⟩:=grown (base':=none) (cap':=0) VRels.nil (fun v hv=>(by cases hv)) (by simp) (by omega) (by simp[Builtin.firstCells]);simp only[List.nil_append,Nat.zero_add]at r1 r2 r3 r4 r5;obtain⟨g1,g2,g3⟩:=(h.drew (w.drawn+1)).new_row i.size new c el (0,0) hcell r4 r5 (fun i hi=>by simp);refine⟨_,_,_,r1,?_,g1,(Trans.refl B H.next ρ w |>.drew (w.drawn+1)).trans g2⟩;unfold VRel;refine .inl ⟨_,0,0,grownCap w n 0 el,rfl,g3,rfl,r3,.inr ⟨by omega,by omega⟩,.inl ⟨rfl,?_⟩⟩;simp only[Nat.zero_add];rw[r2];exact Nat.le_refl _
  | some a=>
   simp only at e;rw[A1b,Bool.cond_decide]at e;split at e
   ·
    rename_i hcap0;subst hcap0;obtain⟨hl0,e1⟩:=A91 e;have hl0:=Nat.eq_of_beq_eq_true hl0;subst hl0;simp only[Option.some.injEq,Prod.mk.injEq]at e1;obtain⟨rfl,rfl⟩:=e1;obtain⟨ad,rfl⟩:∃ad,s'=.slice (some ad) 0 0:=by
     rcases A2x hs with⟨L,q,o,cap',q1,q2,rfl,q4,q5,q6⟩|⟨_,_,ad,rfl⟩
     ·rcases q5 with⟨_,rfl⟩|⟨q5,_⟩
      ·exact⟨_,rfl⟩
      ·exact absurd q5 (by decide)
     ·exact⟨ad,rfl⟩
    obtain⟨c,r1,r2,r3,r4,r5⟩:=grown (base':=some ad) (cap':=0) VRels.nil (fun v hv=>(by cases hv)) (by simp) (by omega) (by simp[Builtin.firstCells,loadCells,loadCellsFrom]);simp only[List.nil_append,Nat.zero_add]at r1 r2 r3 r4 r5;obtain⟨g1,g2,g3⟩:=(h.drew (w.drawn+1)).new_row i.size new c el (0,0) hcell r4 r5 (fun i hi=>by simp);refine⟨_,_,_,r1,?_,g1,(Trans.refl B H.next ρ w |>.drew (w.drawn+1)).trans g2⟩;unfold VRel;refine .inl ⟨_,0,0,grownCap w n 0 el,rfl,g3,rfl,r3,.inr ⟨by omega,by omega⟩,.inl ⟨rfl,?_⟩⟩;simp only[Nat.zero_add];rw[r2];exact Nat.le_refl _
   rename_i hcap0;rcases A2x hs with⟨L,q,o,cap',q1,q2,rfl,q4,q5,q6⟩|⟨_,hc,_⟩
   rotate_left
   ·exact absurd hc hcap0
   have hlo:=C8m q5;have hlt:=(h.lt _ _ _ q2).2;rw[A0c,Bool.cond_decide]at e;split at e
   ·
    rename_i hroom;obtain⟨H1,hw1,e1⟩:=Option.map_eq_some_iff.1 e;simp only[Prod.mk.injEq]at e1;obtain⟨rfl,rfl⟩:=e1;have hex:o=L.s+a.off∧o+cap'*L.e≤L.n:=by
     rcases q6 with q6|q6
     ·exact q6
     ·omega
    obtain⟨ho,hon⟩:=hex;subst ho;obtain⟨c,el0,fr,p1,p2,p3,p4,p5,p6⟩:=h.write hw1 (show (plus a (len*i.size)).spot=some q from q1) (show ρ (plus a (len*i.size)).block q=some L from q2) hcell hus;simp only[plus]at p2 p5 p6;have hrun:=run_append_room_src w t t' t'' el i hu hi L.b (L.s+a.off) len cap' x' n us hsrc (by omega)
     (fun j hj=>by rw[cell_of p1,Array.getElem?_eq_getElem (by omega)];rfl) (fun j hj=>by
      unfold World.frozen?;rw[p1];have:=p3 (L.s+a.off+len*i.size+j) (by omega);simp only[Bool.and_eq_false_iff,decide_eq_false_iff_not];by_cases hh:fr.1≤L.s+a.off+len*i.size+j
      ·exact .inr (by omega)
      ·exact .inl hh)
    rw[A0v us _ p1]at hrun;rw[←Nat.add_assoc]at p5 p6;refine⟨_,ρ,_,hrun,?_,p5,p6⟩;unfold VRel;exact .inl ⟨L,q,L.s+a.off,cap',q1,q2,rfl,by omega,q5,.inl ⟨rfl,hon⟩⟩
   ·rename_i hroom
    obtain⟨old,hold,e1⟩:=Option.bind_eq_some_iff.1 e;obtain⟨k1,k2,olds,k3,k4⟩:=h.cells hold q1 q2;have hfirst:cap'<len+n→(Builtin.firstCells i.size len (.slice (some ⟨L.b,o,none⟩) len cap')).run P w.drew=.ok olds.toArray w.drew:=by
     intro _;by_cases hl0:len=0
     ·subst hl0
      have:olds=[]:=List.eq_nil_of_length_eq_zero (by rw[←k3.length,k1,Nat.zero_mul]);subst this;simp[Builtin.firstCells,loadCells,loadCellsFrom]
     ·have ho : o = L.s + a.off := by
        rcases q6 with q6|q6
        · exact q6.1
        · omega
      subst ho;have hrun := run_loadCells_list (P := P) w.drew ⟨L.b, L.s + a.off, none⟩ olds (fun j u hj => by rw[add_plain];exact k4 j u hj);rw[←k3.length, k1]at hrun
      simpa [Builtin.firstCells] using hrun
    by_cases hcx:A9w cap=true
    ·
     rw[hcx]at e1;simp only[cond_true,Option.some.injEq,Prod.mk.injEq]at e1;obtain⟨rfl,rfl⟩:=e1;obtain⟨c1,c2⟩:=C6f q5 hcx;have hclo:A5p cap=cap:=by
      unfold A5p;rw[A0c,Bool.cond_decide,if_neg (by omega)]
     obtain⟨c,r1,r2,r3,r4,r5⟩:=grown (base':=some ⟨L.b,o,none⟩) (cap':=cap') k3 k2 k1 (by omega) (hfirst (by omega));obtain⟨g1,g2,g3⟩:=(h.drew (w.drawn+1)).new_row i.size (old++new) c el (0,0) (fun v hv=>by rcases List.mem_append.1 hv with hv|hv;exact k2 v hv;exact hcell v hv) r4 r5 (fun i hi=>by simp);refine⟨_,_,_,r1,?_,g1,(Trans.refl B H.next ρ w |>.drew (w.drawn+1)).trans g2⟩;unfold VRel;refine .inl ⟨_,0,0,grownCap w (len+n) cap' el,rfl,g3,rfl,r3,.inr ⟨by omega,by omega⟩,.inl ⟨rfl,?_⟩⟩;simp only[Nat.zero_add];rw[r2];exact Nat.le_refl _
    ·have hcx':A9w cap=false:=by cases hh:A9w cap<;>simp_all
     rw[hcx']at e1;simp only[cond_false]at e1;cases hga:H.objs.get a.block with
     | none=>rw[hga]at e1;cases e1
     | some ob=>
      rw[hga,q1]at e1;cases ob with
      | map es=>cases e1
      | iter s' p'=>cases e1
      | rows rs rw=>
       cases rw with
       | false=>cases e1
       | true=>
        simp only at e1;obtain⟨r,hr,e2⟩:=Option.bind_eq_some_iff.1 e1;cases hesz:Nat.beq r.esz i.size with
        | false=>rw[hesz]at e2;cases e2
        | true=>
         rw[hesz]at e2;simp only[Bool.not_true,cond_false,Option.some.injEq,Prod.mk.injEq]at e2;obtain⟨rfl,rfl⟩:=e2;have hrok:r.ok=true:=by
          exact B82 hga q1 hr hold
         exact grow_row (P:=P) h hga q1 hr hrok (Nat.eq_of_beq_eq_true hesz) q2 k1 k2 k3 k4 hus hcell hsrc hu hi q4 q6 hn0
          ⟨fun hc=>grown k3 k2 k1 hc (hfirst hc)⟩
end
section
variable {P:Program} {B:Nat} {ρ:Map} {H:AH} {w:World}
def Gives(P:Program)(B:Nat)(ρ:Map)(H:AH)(w:World)(v:Value)(H':AH)(s:Sem Value):Prop:=∃w' ρ' v',s.run P w=.ok v' w'∧VRel ρ' v v'∧HRel B ρ' H' w'∧Trans B H.next ρ w ρ' w'
theorem Gives.quiet(h:HRel B ρ H w){v:Value}{s:Sem Value}(e:∃v',s.run P w=.ok v' w∧VRel ρ v v'):Gives P B ρ H w v H s:=by
 obtain⟨v',h1,h2⟩:=e;exact⟨w,ρ,v',h1,h2,h,Trans.refl _ _ _ _⟩
theorem VRels.two{a b:Value}{l:List Value}(h:VRels ρ [a,b] l):∃x y,l=[x,y]∧VRel ρ a x∧VRel ρ b y:=by
 unfold VRels at h;obtain⟨x,us,rfl,h1,h2⟩:=h;unfold VRels at h2;obtain⟨y,us,rfl,h3,h4⟩:=h2;unfold VRels at h4;subst h4;exact⟨x,y,rfl,h1,h3⟩
theorem VRels.one{a:Value}{l:List Value}(h:VRels ρ [a] l):∃x,l=[x]∧VRel ρ a x:=by
 unfold VRels at h;obtain⟨x,us,rfl,h1,h2⟩:=h;unfold VRels at h2;subst h2;exact⟨x,rfl,h1⟩
theorem VRels.three{a b c:Value}{l:List Value}(h:VRels ρ [a,b,c] l):∃x y z,l=[x,y,z]∧VRel ρ a x∧VRel ρ b y∧VRel ρ c z:=by
 unfold VRels at h;obtain⟨x,us,rfl,h1,h2⟩:=h;obtain⟨y,z,rfl,h3,h4⟩:=h2.two;exact⟨x,y,z,rfl,h1,h3,h4⟩
theorem C2u(h:HRel B ρ H w){b:Builtin}{ts:List TypeId}{args args':List Value}{ty:TypeId}{consts:Array Bool}{v:Value}{H':AH}(ha:VRels ρ args args')(e:A3a P b ts args H=some (v,H')):
  ∃w' ρ' v',(builtin b ts.toArray ty consts args'.toArray).run P w=.ok (.value v') w'∧VRel ρ' v v'∧HRel B ρ' H' w'∧Trans B H.next ρ w ρ' w':=by
 unfold A3a at e;split at e
 ·
  rename_i t t' base len cap x;obtain⟨s',x',rfl,hs,hx⟩:=ha.two;split at e
  ·rename_i el hu
   obtain⟨i,hi,e1⟩:=Option.bind_eq_some_iff.1 e;obtain⟨z,hz,e2⟩:=Option.bind_eq_some_iff.1 e1;cases hc:(srcKind P t' x&&Nat.ble 1 i.size&&Nat.beq (A6a z).length i.size) with
   | false=>rw[hc]at e2;cases e2
   | true=>
    rw[hc]at e2;simp only[cond_true]at e2;simp only[A0c,A1b,Bool.and_eq_true,decide_eq_true_eq]at hc;obtain⟨r,hr,e3⟩:=Option.bind_eq_some_iff.1 e2;cases hc2:(Nat.ble ((len+r.1)*i.bytes) 70368744177664&&Nat.ble (len+r.1) 70368744177664) with
    | false=>rw[hc2]at e3;cases e3
    | true=>
     rw[hc2]at e3;simp only[cond_true]at e3;simp only[A0c,Bool.and_eq_true,decide_eq_true_eq]at hc2;obtain⟨w',ρ',v',r1,r2,r3,r4⟩:=D2d (P:=P) (t:=t) (t':=t') (t'':=ty) h hu hi hz hc.1.1 hc.1.2 hc.2 hs hx hr hc2.1 hc2.2 e3;exact⟨w',ρ',v',by simp[builtin,r1],r2,r3,r4⟩
  ·cases e
 ·
  rename_i t x;obtain⟨x',rfl,hx⟩:=ha.one;split at e
  ·rename_i el a n c hu
   injection e with e;simp only[Prod.mk.injEq]at e;obtain⟨rfl,rfl⟩:=e
   refine⟨w,ρ,_,?_,vint,h,Trans.refl _ _ _ _⟩;cases a with
   | none=>obtain⟨rfl,rfl,rfl⟩:=A1x hx;simp[builtin,Builtin.len_,A0a w hu,goInt]
   | some a=>obtain⟨ad,c',rfl⟩:=B6x hx;simp[builtin,Builtin.len_,A0a w hu,goInt]
  ·rename_i s hu
   have:=A4i hx;subst this;injection e with e;simp only[Prod.mk.injEq]at e;obtain⟨rfl,rfl⟩:=e
   exact⟨w,ρ,_,by simp[builtin,Builtin.len_,A0a w hu,goInt],vint,h,Trans.refl _ _ _ _⟩
  ·rename_i kt el m hu
   obtain⟨es,hes,e1⟩:=Option.map_eq_some_iff.1 e;simp only[Prod.mk.injEq]at e1;obtain⟨rfl,rfl⟩:=e1;rcases B3q h hx hes with⟨rfl,rfl,rfl⟩|⟨g,L,es',cl,rfl,hg,hL,rfl,hb,h1,h2⟩
   ·exact⟨w,ρ,_,by simp[builtin,Builtin.len_,A0a w hu,goInt],vint,h,Trans.refl _ _ _ _⟩
   ·have hlen:es.length=es'.size:=by have:=h1.length;simpa using this
    refine⟨w,ρ,.int .i64 es'.size,?_,by rw[hlen];exact vint,h,Trans.refl _ _ _ _⟩;simp[builtin,Builtin.len_,A0a w hu,goInt,A2s hb]
  ·rename_i n el hu
   injection e with e;simp only[Prod.mk.injEq]at e;obtain⟨rfl,rfl⟩:=e
   exact⟨w,ρ,_,by simp[builtin,Builtin.len_,A0a w hu,goInt],vint,h,Trans.refl _ _ _ _⟩
  ·cases e
 ·rename_i j m k n
  obtain⟨x,y,rfl,hx,hy⟩:=ha.two;have:=A2f hx;have:=A2f hy;subst_vars;cases hk:A1n j k with
  | false=>rw[hk]at e;cases e
  | true=>
   rw[hk]at e;injection e with e;simp only[Prod.mk.injEq]at e;obtain⟨rfl,rfl⟩:=e
   refine⟨w,ρ,_,?_,vint,h,Trans.refl _ _ _ _⟩;rw[A7k,Bool.cond_decide];simp only[builtin,Builtin.min_,List.foldlM,Builtin.min2,bind_pure,Sem.run_pure,pure_bind]
   congr 3
   split<;>split<;>first|rfl|omega
 ·rename_i j m k n
  obtain⟨x,y,rfl,hx,hy⟩:=ha.two;have:=A2f hx;have:=A2f hy;subst_vars;cases hk:A1n j k with
  | false=>rw[hk]at e;cases e
  | true=>
   rw[hk]at e;injection e with e;simp only[Prod.mk.injEq]at e;obtain⟨rfl,rfl⟩:=e
   refine⟨w,ρ,_,?_,vint,h,Trans.refl _ _ _ _⟩;rw[A7k,Bool.cond_decide];simp only[builtin,Builtin.max_,List.foldlM,Builtin.max2,bind_pure,Sem.run_pure,pure_bind]
   congr 3
   split<;>split<;>first|rfl|omega
 ·rename_i j m k n l q
  obtain⟨x,y,z,rfl,hx,hy,hz⟩:=ha.three;have:=A2f hx;have:=A2f hy;have:=A2f hz;subst_vars;cases hk:(A1n j k&&A1n j l) with
  | false=>rw[hk]at e;cases e
  | true=>
   rw[hk]at e;injection e with e;simp only[Prod.mk.injEq]at e;obtain⟨rfl,rfl⟩:=e
   refine⟨w,ρ,_,?_,vint,h,Trans.refl _ _ _ _⟩;simp only[A7k,Bool.cond_decide];simp only[builtin,Builtin.min_,List.foldlM,Builtin.min2,bind_pure,Sem.run_pure,pure_bind]
   congr 3
   repeat' split
   all_goals first|rfl|omega
 ·rename_i j m k n l q
  obtain⟨x,y,z,rfl,hx,hy,hz⟩:=ha.three;have:=A2f hx;have:=A2f hy;have:=A2f hz;subst_vars;cases hk:(A1n j k&&A1n j l) with
  | false=>rw[hk]at e;cases e
  | true=>
   rw[hk]at e;injection e with e;simp only[Prod.mk.injEq]at e;obtain⟨rfl,rfl⟩:=e
   refine⟨w,ρ,_,?_,vint,h,Trans.refl _ _ _ _⟩;simp only[A7k,Bool.cond_decide];simp only[builtin,Builtin.max_,List.foldlM,Builtin.max2,bind_pure,Sem.run_pure,pure_bind]
   congr 3
   repeat' split
   all_goals first|rfl|omega
 ·rename_i t ts m k
  obtain⟨m',k',rfl,hm,hk⟩:=ha.two;obtain⟨H1,h1,e1⟩:=Option.map_eq_some_iff.1 e;simp only[Prod.mk.injEq]at e1;obtain⟨rfl,rfl⟩:=e1;obtain⟨w',r1,r2,r3⟩:=C3x (P:=P) (t':=ty) (ts:=ts) h hm hk h1;exact⟨w',ρ,undef,by simp[builtin,r1],A30,r2,r3⟩
 ·cases e
theorem B1c:∀{l:List Value} {bs:List UInt8},bytesOf l=some bs→∃xs:List Int,l=xs.map (Value.int .u8)∧bs=xs.map fun n=>UInt8.ofNat n.toNat
 | [],bs,e=>by injection e with e;subst e;exact⟨[],rfl,rfl⟩
 | v :: l,bs,e=>by
  unfold bytesOf at e;split at e
  ·rename_i h;cases h
  ·rename_i b l' h
   injection h with h1 h2
   subst h1 h2;obtain⟨r,hr,e1⟩:=Option.map_eq_some_iff.1 e;subst e1;obtain⟨xs,rfl,rfl⟩:=B1c hr;exact⟨Int.ofNat b :: xs,rfl,rfl⟩
  ·cases e
theorem B61:∀{xs:List Int} {us:List Value},VRels ρ (xs.map (Value.int .u8)) us→us=xs.map (Value.int .u8)
 | [],us,h=>by unfold VRels at h;exact h
 | x :: xs,us,h=>by
  simp only[List.map_cons]at h;unfold VRels at h;obtain⟨u,us',rfl,h1,h2⟩:=h;rw[A2f h1,B61 h2];rfl
theorem C3s(h:HRel B ρ H w){s d:TypeId}{x x' v:Value}{H':AH}(hx:VRel ρ x x')(e:A2i P s d x H=some (v,H')):∃v',(convert s d x').run P w=.ok v' w∧VRel ρ v v'∧H'=H:=by
 unfold A2i at e;split at e
 ·rename_i sd k j n hu hd
  have:=A2f hx;subst this;injection e with e;simp only[Prod.mk.injEq]at e;obtain⟨rfl,rfl⟩:=e
  exact⟨_,by simp[convert,A0a w hu,A0a w hd,Conv.intToInt],vint,rfl⟩
 ·rename_i sd b hu hd
  have:=A4i hx;subst this;injection e with e;simp only[Prod.mk.injEq]at e;obtain⟨rfl,rfl⟩:=e
  exact⟨_,by simp[convert,A0a w hu,A0a w hd],vstr,rfl⟩
 ·rename_i el a n c hu hd
  split at e
  ·rename_i he
   cases a with
   | none=>
    obtain⟨rfl,rfl,rfl⟩:=A1x hx;simp only[Option.some.injEq,Prod.mk.injEq]at e;obtain⟨rfl,rfl⟩:=e;exact⟨.string .empty,by simp[convert,A0a w hu,A0a w hd,A0a w he,Conv.bytesToString],vstr,rfl⟩
   | some a=>
    simp only at e;rcases A2x hx with⟨L,q,o,cap',q1,q2,rfl,q4,q5,q6⟩|⟨rfl,rfl,ad,rfl⟩
    rotate_left
    ·simp[]at e
    rw[A1b,Bool.cond_decide]at e;split at e
    ·cases e
    ·rename_i hn
     obtain⟨l,hl,e1⟩:=Option.bind_eq_some_iff.1 e;obtain⟨bs,hbs,e2⟩:=Option.map_eq_some_iff.1 e1;simp only[Prod.mk.injEq]at e2;obtain⟨rfl,rfl⟩:=e2;obtain⟨xs,rfl,rfl⟩:=B1c hbs;obtain⟨k1,k2,us,k3,k4⟩:=h.cells hl q1 q2;have:=B61 k3;subst this;have ho:o=L.s+a.off:=by
      rcases q6 with q6|q6
      ·exact q6.1
      ·omega
     subst ho;have hrun:=run_convert_bytes_arg (P:=P) w s el hu he L.b (L.s+a.off) n cap' xs (by simpa using k1) (fun i hi=>k4 i _ (by
      have : i < xs.length := by have : xs.length = n := by simpa using k1
                                 omega
      simp[List.getD,this])) d hd
     exact⟨_,hrun,vstr,rfl⟩
  ·cases e
 ·cases e
def OpOk(P:Program)(B:Nat)(ρ:Map)(w:World)(call:A1d)(H:AH)(v:Value)(H':AH)(r:Result Next):Prop:=
 (∃w' ρ',HRel B ρ' H' w'∧Trans B H.next ρ w ρ' w'∧((∃v',r=.ok (.value v') w'∧VRel ρ' v v')∨(r=.ok .skip w'∧v=undef)))∨
 (∃f args args',call f args H=some (v,H')∧VRels ρ args args'∧r=.ok (.enter f args'.toArray) w)
theorem OpOk.given{call:A1d}{v:Value}{H':AH}{s:Sem Value}(h:Gives P B ρ H w v H' s):OpOk P B ρ w call H v H' ((do pure (.value (←s)):Sem Next).run P w):=by
 obtain⟨w',ρ',v',h1,h2,h3,h4⟩:=h;exact .inl ⟨w',ρ',h3,h4,.inl ⟨v',by simp[h1],h2⟩⟩
theorem OpOk.pure(h:HRel B ρ H w){call:A1d}{v v':Value}(hv:VRel ρ v v'):OpOk P B ρ w call H v H (.ok (.value v') w):=.inl ⟨w,ρ,h,Trans.refl _ _ _ _,.inl ⟨v',rfl,hv⟩⟩
theorem A3e{v:Option Value}{x:Value}{H':AH}(e:quiet H v=some (x,H')):v=some x∧H'=H:=by
 unfold quiet at e;obtain⟨y,h1,h2⟩:=Option.map_eq_some_iff.1 e;simp only[Prod.mk.injEq]at h2;exact⟨by rw[h1,h2.1],h2.2.symm⟩
theorem A0w{H1:Option AH}{x:Value}{H':AH}(e:Sh.unit H1=some (x,H')):H1=some H'∧x=undef:=by
 unfold Sh.unit at e;obtain⟨y,h1,h2⟩:=Option.map_eq_some_iff.1 e;simp only[Prod.mk.injEq]at h2;exact⟨by rw[h1,h2.2],h2.1.symm⟩
theorem B2e{F:Fr}{a:Act}(hF:FRel ρ F a):∀{xs:List (Nat×Operand)} {vs:List (Nat×Value)},evps F xs=some vs→PRels ρ vs (xs.map fun(i,x)=>(i,a.eval x))
 | [],vs,e=>by injection e with e;subst e;exact⟨rfl,VRels.nil⟩
 | (i,x) :: xs,vs,e=>by
  simp only[evps]at e;obtain⟨v,h1,e1⟩:=Option.bind_eq_some_iff.1 e;obtain⟨us,h2,e2⟩:=Option.map_eq_some_iff.1 e1;subst e2;obtain⟨g1,g2⟩:=B2e hF h2;exact⟨by simp only[List.map_cons];rw[g1],by simp only[List.map_cons];exact VRels.cons (A8e hF h1) g2⟩
theorem C3b{F:Fr}{a:Act}(hF:FRel ρ F a){x:Option Operand}{v:Option Value}(e:evo F x=some v):ORel ρ v (x.map a.eval):=by
 cases x with
 | none=>injection e with e;subst e;rfl
 | some x=>
  simp only[evo]at e;obtain⟨y,h1,h2⟩:=Option.map_eq_some_iff.1 e;subst h2;exact⟨_,rfl,A8e hF h1⟩
end
section
variable {P:Program} {B:Nat} {ρ:Map} {H:AH} {w:World}
def B6m (P:Program):Prop:=∀(f:Nat) fn,P.funcs[f]?=some fn→(fn.name == "runtime.NumGoroutine")=false
def A1v(P:Program)(call:A1d):Prop:=∀f args H r,call f args H=some r→∃fn c,P.funcs[f]?=some fn∧fn.body=some c
theorem B21(hN:B6m P){call:A1d}(hb:A1v P call){f:FuncId}{args:List Value}{r:Value×AH}(e:call f args H=some r)(us:Array Value):(callFunc f us).run P w=.ok (.enter f us) w:=by
 obtain⟨fn,c,h1,h2⟩:=hb _ _ _ _ e;have h3:fn.name ≠ "runtime.NumGoroutine" := by simpa using hN f fn h1
 simp[callFunc,h1,h3,h2]
theorem call_ok(hN:B6m P){call:A1d}(hb:A1v P call){g g':Value}{args args':List Value}{v:Value}{H':AH}(hg:VRel ρ g g')(ha:VRels ρ args args')(e:C4q P call g args H=some (v,H')):
  ∃f xs xs',call f xs H=some (v,H')∧VRels ρ xs xs'∧(do let d ←Deferred.ofValue g' args'.toArray;invoke d.target d.args:Sem Next).run P w=.ok (.enter f xs'.toArray) w:=by
 unfold C4q at e;split at e
 ·rename_i f fi cs
  obtain⟨fi',cs',rfl,h1,h2⟩:=B0i hg;refine⟨f,fi.toList++args++cs.toList,fi'++args'++cs',e,VRels.append (VRels.append h1 ha) h2,?_⟩;have:=B21 (w:=w) hN hb e (fi'++args'++cs').toArray
  simpa [Deferred.ofValue,invoke] using this
 ·cases e
theorem wrap_run{t t':TypeId}{a:Addr}{x y:String}:(Builtin.ssaWrapNilChk_ #[t] t' #[.pointer (some a),strVal x,strVal y]).run P w=.ok (.pointer (some a)) w:=rfl
theorem D1b(h:HRel B ρ H w)(hN:B6m P){call:A1d}(hb:A1v P call){g g':Value}{name:String}{args args':List Value}{v:Value}{H':AH}(hg:VRel ρ g g')(ha:VRels ρ args args')(e:B3j P call g name args H=some (v,H')):
  ∃f xs xs',call f xs H=some (v,H')∧VRels ρ xs xs'∧(callMethod g' name args'.toArray).run P w=.ok (.enter f xs'.toArray) w:=by
 unfold B3j at e;split at e
 ·rename_i t x
  obtain⟨x',rfl,hx⟩:=A64 hg;obtain⟨i,hi,e1⟩:=Option.bind_eq_some_iff.1 e;obtain⟨m,hm,e2⟩:=Option.bind_eq_some_iff.1 e1;cases hp:m.path.isEmpty with
  | false=>rw[hp]at e2;cases e2
  | true=>
   rw[hp]at e2;simp only[cond_true]at e2;have hpath:m.path.toList=[]:=by
    have:m.path=#[]:=by simpa using hp
    rw[this]
   have hmeth : ∀ {f : FuncId} {ptr : Bool} {z z' : Value}, m.func = some (f, ptr) → (∀ y, call f (z :: args) H = some y → (receiverAt t (.val x') ptr (if m.path.isEmpty then some ((name.splitOn ".").getLastD name) else none)).run P w = .ok z' w →
       (callMethod (.iface t x') name args'.toArray).run P w = .ok (.enter f (z' :: args').toArray) w) := by
     intro f ptr z z' hf y hy hr;have := B21 (w := w) hN hb hy (z' :: args').toArray;have hmm : ∀n, (method (n + 1) t x' name).run P w = .ok (f, z') w := by
       intro n;simp only[method, Sem.run_bind, A28 w hi, Result.andThen_ok, hm, hpath, follow, Sem.run_pure, hf, hr]
     have hd : method (P.types.size + Made.depth) t x' name = method ((P.types.size + 99) + 1) t x' name := rfl;simp only[callMethod, Sem.run_bind, run_program, Result.andThen_ok];rw[hd, hmm]
     simpa using this
   split at e2
   ·rename_i f pe hf hu
    refine⟨f,x :: args,x' :: args',e2,VRels.cons hx ha,hmeth hf _ e2 ?_⟩;simp[receiverAt,A0a w hu,Place.get]
   ·cases e2
   ·rename_i f el hf hu
    obtain⟨z,hz,e3⟩:=Option.bind_eq_some_iff.1 e2;obtain⟨z',hz1,hz2⟩:=C1a (P:=P) h hx hz;refine⟨f,z :: args,z' :: args',e3,VRels.cons hz2 ha,hmeth hf _ e3 ?_⟩;cases x with
    | pointer a=>
     cases a with
     | none=>cases hz
     | some a=>
      obtain⟨L,k,h1,h2,rfl⟩:=A0q hx;simp only[Instr.loadAt,Instr.sureAddr,Sem.run_bind,Sem.run_pure,Result.andThen_ok]at hz1;simp only[receiverAt,Sem.run_bind,A0a w hu,Result.andThen_ok,hp,if_true,Place.get,Sem.run_pure,wrap_run,asAddr,hz1]
    | _=>cases hz
   ·rename_i f d hn hf hu
    refine⟨f,x :: args,x' :: args',e2,VRels.cons hx ha,hmeth hf _ e2 ?_⟩;cases d<;>simp[receiverAt,A0a w hu,Place.get];exact absurd rfl (hn _)
   ·cases e2
 ·cases e
theorem B7k(a:Act)(l:Array (Nat×Operand)):(l.map fun(i,x)=>(i,a.eval x))=(l.toList.map fun(i,x)=>(i,a.eval x)).toArray:=by
 apply Array.ext';simp
theorem A26(a:Act)(l:Array Operand):l.map a.eval=(l.toList.map a.eval).toArray:=by
 apply Array.ext';simp
theorem const_or{x y:Operand}(h:(isConst x||isConst y)=true):(∃v,x=.const v)∨∃v,y=.const v:=by
 rw[Bool.or_eq_true]at h;rcases h with h|h
 ·cases x<;>simp[isConst]at h;exact .inl ⟨_,rfl⟩
 ·cases y<;>simp[isConst]at h;exact .inr ⟨_,rfl⟩
set_option maxHeartbeats 1000000 in
theorem C48(hN:B6m P){call:A1d}(hb:A1v P call){F:Fr}{a:Act}(hF:FRel ρ F a)(h:HRel B ρ H w){o:Oper}{v:Value}{H':AH}(e:aop P call F H o=some (v,H')):OpOk P B ρ w call H v H' ((execOp a.eval o).run P w):=by
 unfold aop at e;unfold execOp;cases hop:o.op<;>rw[hop]at e<;>simp only at e ⊢<;>try (cases e;done)
 case move x=>obtain⟨e1,rfl⟩:=A3e e;exact OpOk.pure h (A8e hF e1)
 case assign x=>obtain⟨e1,rfl⟩:=A3e e;exact OpOk.pure h (A8e hF e1)
 case pick c x y=>
  split at e
  ·rename_i hc
   have:=A6n (A8e hF hc);obtain⟨e1,rfl⟩:=A3e e;have:=OpOk.pure (P:=P) (call:=call) h (A8e hF e1)
   simp_all [asBool]
  ·rename_i hc
   have:=A6n (A8e hF hc);obtain⟨e1,rfl⟩:=A3e e;have:=OpOk.pure (P:=P) (call:=call) h (A8e hF e1)
   simp_all [asBool]
  ·cases e
 case alloc t=>
  obtain⟨z,hz,e1⟩:=Option.bind_eq_some_iff.1 e;obtain⟨w',ρ',p,r1,r2,r3,r4⟩:=new_ok (P:=P) h (A00 (A6l hz).1) e1;exact OpOk.given ⟨w',ρ',_,by simp[Instr.alloc,A7x w hz,r1],r2,r3,r4⟩
 case box t x=>
  obtain⟨z,hz,e1⟩:=Option.bind_eq_some_iff.1 e;obtain⟨w',ρ',p,r1,r2,r3,r4⟩:=new_ok (P:=P) h (A8e hF hz) e1;exact OpOk.given ⟨w',ρ',_,by simp[Instr.box,r1],r2,r3,r4⟩
 case build t ps=>
  obtain⟨vs,hvs,e1⟩:=Option.bind_eq_some_iff.1 e;obtain⟨e2,rfl⟩:=A3e e1;have:=build_ok (P:=P) (w:=w) (B2e hF hvs) e2;rw[←B7k]at this;exact OpOk.given (Gives.quiet h this)
 case buildSlice t n ps=>
  obtain⟨vs,hvs,e1⟩:=Option.bind_eq_some_iff.1 e;obtain⟨w',ρ',v',r1,r2,r3,r4⟩:=(A23 (P:=P) (w:=w) (B2e hF hvs) e1).ok h;rw[←B7k]at r1;exact OpOk.given ⟨w',ρ',v',r1,r2,r3,r4⟩
 case insert t m k x=>
  obtain⟨m',hm,e1⟩:=Option.bind_eq_some_iff.1 e;obtain⟨k',hk,e2⟩:=Option.bind_eq_some_iff.1 e1;obtain⟨x',hx,e3⟩:=Option.bind_eq_some_iff.1 e2;obtain⟨e4,rfl⟩:=A0w e3;obtain⟨w',r1,r2,r3⟩:=B57 (P:=P) h (A8e hF hm) (A8e hF hk) (A8e hF hx) e4;exact .inl ⟨w',ρ,r2,r3,.inr ⟨by simp[r1],rfl⟩⟩
 case load t x=>
  obtain⟨p,hp,e1⟩:=Option.bind_eq_some_iff.1 e;obtain⟨e2,rfl⟩:=A3e e1;exact OpOk.given (Gives.quiet h (C1a h (A8e hF hp) e2))
 case store t x y=>
  obtain⟨p,hp,e1⟩:=Option.bind_eq_some_iff.1 e;obtain⟨x',hx,e2⟩:=Option.bind_eq_some_iff.1 e1;obtain⟨e3,rfl⟩:=A0w e2;obtain⟨w',r1,r2,r3⟩:=store_ok (P:=P) h (A8e hF hp) (A8e hF hx) e3;exact .inl ⟨w',ρ,r2,r3,.inr ⟨by simp[r1],rfl⟩⟩
 case nilCheck x=>
  obtain⟨p,hp,e1⟩:=Option.bind_eq_some_iff.1 e;have hr:=A8e hF hp;split at e1
  ·simp only[Option.some.injEq,Prod.mk.injEq]at e1
   obtain⟨rfl,rfl⟩:=e1;have hr':=hr;obtain⟨L,k,_,_,hh⟩:=A0q hr;rw[hh]at hr' ⊢;exact OpOk.pure h hr'
  ·simp only[Option.some.injEq,Prod.mk.injEq]at e1
   obtain⟨rfl,rfl⟩:=e1;have hr':=hr;obtain⟨_,_,hh,_⟩:=B0i hr;rw[hh]at hr' ⊢;exact OpOk.pure h hr'
  ·cases e1
 case binOp op t x y yt=>
  obtain⟨p,hp,e1⟩:=Option.bind_eq_some_iff.1 e;obtain⟨q,hq,e2⟩:=Option.bind_eq_some_iff.1 e1;obtain⟨e3,rfl⟩:=A3e e2;exact OpOk.given (Gives.quiet h (bin_ok (fun hc=>const_or hc) (A8e hF hp) (A8e hF hq) e3))
 case unOp op t x=>
  obtain⟨p,hp,e1⟩:=Option.bind_eq_some_iff.1 e;obtain⟨e3,rfl⟩:=A3e e1;exact OpOk.given (Gives.quiet h (un_ok (A8e hF hp) e3))
 case convert s d x=>
  obtain⟨p,hp,e1⟩:=Option.bind_eq_some_iff.1 e;obtain⟨v',r1,r2,rfl⟩:=C3s h (A8e hF hp) e1;exact OpOk.given (Gives.quiet h ⟨v',r1,r2⟩)
 case makeInterface t x=>
  obtain⟨p,hp,e1⟩:=Option.bind_eq_some_iff.1 e;have hr:=A8e hF hp;split at e1
  ·cases e1
  ·cases e1
  ·rename_i n1 n2
   simp only[Option.some.injEq,Prod.mk.injEq]at e1;obtain⟨rfl,rfl⟩:=e1;cases hu:P.underlying t with
   | none=>exact absurd hu n2
   | some d=>
    refine OpOk.given (Gives.quiet h ⟨.iface t (a.eval x),?_,by unfold VRel;exact⟨_,rfl,hr⟩⟩);cases d<;>simp[Instr.makeInterface,A0a w hu];exact absurd hu (n1 _)
 case makeFunc fn fi cs=>
  obtain⟨p,hp,e1⟩:=Option.bind_eq_some_iff.1 e;obtain⟨q,hq,e2⟩:=Option.bind_eq_some_iff.1 e1;simp only[Option.some.injEq,Prod.mk.injEq]at e2;obtain⟨rfl,rfl⟩:=e2;refine OpOk.given (Gives.quiet h ⟨.func fn (fi.map a.eval) (cs.map a.eval),by simp[Instr.makeFunc],?_⟩);rw[A26,A26];unfold VRel;exact⟨_,_,rfl,B4x hF hp,B4x hF hq⟩
 case makeMap t r=>
  cases r with
  | some r=>cases e
  | none=>
   simp only[Option.some.injEq,Prod.mk.injEq]at e;obtain⟨rfl,rfl⟩:=e;obtain⟨g1,g2,g3⟩:=h.new_map;refine OpOk.given ⟨_,_,.map (some w.heap.size),by simp[Instr.makeMap],?_,g1,g2⟩;unfold VRel;exact⟨_,g3,rfl⟩
 case makeSlice t l c=>
  obtain⟨p,hp,e1⟩:=Option.bind_eq_some_iff.1 e;obtain⟨q,hq,e2⟩:=Option.bind_eq_some_iff.1 e1;exact OpOk.given ((A76 (P:=P) (w:=w) (A8e hF hp) (A8e hF hq) e2).ok h)
 case slice t x lo hi mx=>
  obtain⟨p,hp,e1⟩:=Option.bind_eq_some_iff.1 e;obtain⟨l,hl,e2⟩:=Option.bind_eq_some_iff.1 e1;obtain⟨hh,hhh,e3⟩:=Option.bind_eq_some_iff.1 e2;obtain⟨m,hm,e4⟩:=Option.bind_eq_some_iff.1 e3;obtain⟨e5,rfl⟩:=A3e e4;exact OpOk.given (Gives.quiet h (slice_ok h (A8e hF hp) (C3b hF hl) (C3b hF hhh) (C3b hF hm) e5))
 case fieldAddr t x f=>
  obtain⟨p,hp,e1⟩:=Option.bind_eq_some_iff.1 e;obtain⟨e3,rfl⟩:=A3e e1;exact OpOk.given (Gives.quiet h (B70 (A8e hF hp) e3))
 case field t x f=>
  obtain⟨p,hp,e1⟩:=Option.bind_eq_some_iff.1 e;obtain⟨e3,rfl⟩:=A3e e1;exact OpOk.given (Gives.quiet h (field_ok (A8e hF hp) e3))
 case indexAddr t x i=>
  obtain⟨p,hp,e1⟩:=Option.bind_eq_some_iff.1 e;obtain⟨q,hq,e2⟩:=Option.bind_eq_some_iff.1 e1;obtain⟨e3,rfl⟩:=A3e e2;exact OpOk.given (Gives.quiet h (B0z (A8e hF hp) (A8e hF hq) e3))
 case index t x i=>
  obtain⟨p,hp,e1⟩:=Option.bind_eq_some_iff.1 e;obtain⟨q,hq,e2⟩:=Option.bind_eq_some_iff.1 e1;obtain⟨e3,rfl⟩:=A3e e2;exact OpOk.given (Gives.quiet h (index_ok (A8e hF hp) (A8e hF hq) e3))
 case lookup t m k ok=>
  obtain⟨p,hp,e1⟩:=Option.bind_eq_some_iff.1 e;obtain⟨q,hq,e2⟩:=Option.bind_eq_some_iff.1 e1;obtain⟨e3,rfl⟩:=A3e e2;exact OpOk.given (Gives.quiet h (C91 h (A8e hF hp) (A8e hF hq) e3))
 case mapUpdate t m k x=>
  obtain⟨m',hm,e1⟩:=Option.bind_eq_some_iff.1 e;obtain⟨k',hk,e2⟩:=Option.bind_eq_some_iff.1 e1;obtain⟨x',hx,e3⟩:=Option.bind_eq_some_iff.1 e2;obtain⟨e4,rfl⟩:=A0w e3;obtain⟨w',r1,r2,r3⟩:=B57 (P:=P) h (A8e hF hm) (A8e hF hk) (A8e hF hx) e4;exact .inl ⟨w',ρ,r2,r3,.inr ⟨by simp[r1],rfl⟩⟩
 case typeAssert x xt t ok=>
  obtain⟨p,hp,e1⟩:=Option.bind_eq_some_iff.1 e;have hr:=A8e hF hp;split at e1
  ·rename_i u y
   obtain⟨y',hy,hyr⟩:=A64 hr;rw[A1b,Bool.cond_decide]at e1;split at e1
   ·rename_i hut
    subst hut;split at e1
    ·cases e1
    ·cases e1
    ·rename_i n1 n2
     simp only[Option.some.injEq,Prod.mk.injEq]at e1;obtain⟨rfl,rfl⟩:=e1;cases hu:P.underlying u with
     | none=>exact absurd hu n2
     | some d=>
      refine OpOk.given (Gives.quiet h ⟨if ok=true then .tuple #[y',.bool true] else y',?_,?_⟩)
      ·rw[hy]
       cases d<;>simp[Instr.typeAssert,A0a w hu];exact absurd hu (n1 _)
      ·cases ok with
       | false=>exact hyr
       | true=>
        show VRel ρ (.tuple #[y,.bool true]) (.tuple #[y',.bool true]);unfold VRel;exact⟨_,rfl,VRels.cons hyr (VRels.cons B36 VRels.nil)⟩
   ·cases e1
  ·cases e1
 case extract t i=>
  obtain⟨p,hp,e1⟩:=Option.bind_eq_some_iff.1 e;have hr:=A8e hF hp;split at e1
  ·rename_i vs
   obtain⟨e3,rfl⟩:=A3e e1;obtain⟨vs',hh,hvs⟩:=C7p hr;obtain⟨u,r1,r2⟩:=hvs.get e3;refine OpOk.given (Gives.quiet h ⟨u,?_,r2⟩);rw[hh];simp[Instr.extract,r1]
  ·cases e1
 case call c=>
  obtain⟨args,hargs,e1⟩:=Option.bind_eq_some_iff.1 e;have ha:=B4x hF hargs;split at e1
  ·rename_i b hb'
   obtain⟨w',ρ',v',r1,r2,r3,r4⟩:=C2u (P:=P) (ty:=o.type) (consts:=c.args.map fun | .const _=>true|_=>false) h ha e1;refine .inl ⟨w',ρ',r3,r4,.inl ⟨v',?_,r2⟩⟩;simp only[Array.toArray_toList]at r1;rw[←A26]at r1;simp only[resolve,hb',Sem.run_bind,Sem.run_pure,Result.andThen_ok,invoke];exact r1
  ·rename_i g hb'
   obtain⟨f,hf,e2⟩:=Option.bind_eq_some_iff.1 e1;obtain⟨q,xs,xs',r1,r2,r3⟩:=call_ok (w:=w) hN hb (A8e hF hf) ha e2;refine .inr ⟨q,xs,xs',r1,r2,?_⟩;rw[←A26]at r3;simp only[resolve,hb'];exact r3
  ·rename_i r name hb'
   obtain⟨f,hf,e2⟩:=Option.bind_eq_some_iff.1 e1;obtain⟨q,xs,xs',r1,r2,r3⟩:=D1b (w:=w) h hN hb (A8e hF hf) ha e2;refine .inr ⟨q,xs,xs',r1,r2,?_⟩;rw[←A26]at r3;simp only[resolve,hb',Sem.run_bind,Sem.run_pure,Result.andThen_ok,invoke];have h1:(#[a.eval r]++c.args.map a.eval)[0]?=some (a.eval r):=by simp[Array.getElem?_append]
   have h2:(#[a.eval r]++c.args.map a.eval).extract 1 (#[a.eval r]++c.args.map a.eval).size=c.args.map a.eval:=by
    apply Array.ext';simp[Array.toList_extract];exact List.take_of_length_le (by simp)
   rw[h1];simp only;rw[h2];exact r3
theorem C8j{H0 H1 H2:AH}(h:HRel B ρ H2 w){t:TypeId}{v v' p:Value}(hv:VRel ρ v v')(e:anew P t H0 v=some (p,H1))(hg:H2.objs.get H0.next=H1.objs.get H0.next)(hn:∀k,ρ H0.next k=none):
  ∃w' ρ' a,(newVar t v').run P w=.ok a w'∧VRel ρ' p (.pointer (some a))∧HRel B ρ' H2 w'∧Trans B H0.next ρ w ρ' w'∧∀g' k L,ρ' g' k=some L→ρ g' k=some L∨g'=H0.next:=by
 unfold anew at e;obtain⟨n,hsz,e⟩:=Option.bind_eq_some_iff.1 e;cases hc:(Nat.beq (A6a v).length n&&(A6a v).all isCell) with
 | false=>rw[hc]at e;cases e
 | true=>
  rw[hc]at e;simp only[cond_true,Option.some.injEq,Prod.mk.injEq]at e;obtain⟨rfl,rfl⟩:=e;simp only[A1b,Bool.and_eq_true,decide_eq_true_eq]at hc;have hcs:=hv.cells;have hlen:=hcs.length;obtain⟨g1,g2,g3⟩:=h.late_row H0.next n (A6a v) (by rw[hg];exact Tr.get_set_eq _ _ _) hn v'.cells t (0,0) (A31 hc.2) (by rw[hlen,Array.length_toList];exact Nat.le_refl _)
   (fun i x hx=>by obtain⟨u,e1,e2⟩:=hcs.get hx;exact⟨u,by simpa using e1,e2⟩) (fun i hi=>by simp)
  refine⟨_,_,⟨w.heap.size,0,none⟩,?_,?_,g1,g2,?_⟩
  ·simp[newVar,newRow]
  ·unfold VRel
   exact⟨_,0,rfl,g3,rfl⟩
  ·intro g' k L e
   by_cases x:g'=H0.next
   ·exact .inr x
   ·rw[Map.add_other _ _ (fun y=>x y.1)]at e
    exact .inl e
theorem D5c{call:A1d}{F:Fr}{a:Act}{H0 H1 H2:AH}(hF:FRel ρ F a)(h:HRel B ρ H2 w){o:Oper}{v:Value}(e:aop P call F H0 o=some (v,H1))(hm:A2d o=true)(hg:H2.objs.get H0.next=H1.objs.get H0.next)(hn:∀k,ρ H0.next k=none):
  ∃w' ρ' v',(execOp a.eval o).run P w=.ok (.value v') w'∧VRel ρ' v v'∧HRel B ρ' H2 w'∧Trans B H0.next ρ w ρ' w'∧∀g' k L,ρ' g' k=some L→ρ g' k=some L∨g'=H0.next:=by
 unfold aop at e;unfold A2d at hm;unfold execOp;cases hop:o.op<;>rw[hop]at e hm<;>simp only at e hm ⊢<;>try (cases hm;done)
 case alloc t=>
  obtain⟨z,hz,e1⟩:=Option.bind_eq_some_iff.1 e;obtain⟨w',ρ',p,r1,r2⟩:=C8j (P:=P) h (A00 (A6l hz).1) e1 hg hn;exact⟨w',ρ',_,by simp[Instr.alloc,A7x w hz,r1],r2⟩
 case box t x=>
  obtain⟨z,hz,e1⟩:=Option.bind_eq_some_iff.1 e;obtain⟨w',ρ',p,r1,r2⟩:=C8j (P:=P) h (A8e hF hz) e1 hg hn;exact⟨w',ρ',_,by simp[Instr.box,r1],r2⟩
 case buildSlice t n ps=>
  obtain⟨vs,hvs,e1⟩:=Option.bind_eq_some_iff.1 e;obtain⟨w',ρ',v',r1,r2⟩:=(A23 (P:=P) (w:=w) (B2e hF hvs) e1).late h hg hn;rw[←B7k]at r1;exact⟨w',ρ',v',by simp[r1],r2⟩
 case makeSlice t l c=>
  obtain⟨p,hp,e1⟩:=Option.bind_eq_some_iff.1 e;obtain⟨q,hq,e2⟩:=Option.bind_eq_some_iff.1 e1;obtain⟨w',ρ',v',r1,r2⟩:=(A76 (P:=P) (w:=w) (A8e hF hp) (A8e hF hq) e2).late h hg hn;exact⟨w',ρ',v',by simp[r1],r2⟩
 case makeMap t r=>
  cases r with
  | some r=>cases e
  | none=>
   simp only[Option.some.injEq,Prod.mk.injEq]at e;obtain⟨rfl,rfl⟩:=e;obtain⟨g1,g2,g3⟩:=h.late_map H0.next (by rw[hg];exact Tr.get_set_eq _ _ _) hn;refine⟨_,_,.map (some w.heap.size),by simp[Instr.makeMap],?_,g1,g2,?_⟩
   ·show VRel _ (.map (some H0.next)) _
    unfold VRel;exact⟨_,g3,rfl⟩
   ·intro g' k L e
    by_cases x:g'=H0.next
    ·exact .inr x
    ·rw[Map.add_other _ _ (fun y=>x y.1)]at e
     exact .inl e
end
section
variable {P:Program} {H H':AH}
theorem A82(s:Nat)(vs:List Value):(H.new s vs).2.next=H.next+1:=rfl
theorem write_next{a:Addr}{vs:List Value}(e:H.write a vs=some H'):H'.next=H.next:=by
 obtain⟨_,_,_,_,_,_,_,_,rfl⟩:=AH.write_some e;rfl
theorem A2g{v:Option Value}{x:Value}(e:quiet H v=some (x,H')):H.next≤H'.next:=by rw[(A3e e).2];exact Nat.le_refl _
theorem B55{t:TypeId}{v x:Value}(e:anew P t H v=some (x,H')):H.next≤H'.next:=by
 unfold anew at e;obtain⟨n,_,e1⟩:=Option.bind_eq_some_iff.1 e;cases hc:(Nat.beq (A6a v).length n&&(A6a v).all isCell) with
 | false=>rw[hc]at e1;cases e1
 | true=>
  rw[hc]at e1;simp only[cond_true,Option.some.injEq,Prod.mk.injEq]at e1;obtain⟨_,rfl⟩:=e1;rw[A82];omega
theorem B49{t:TypeId}{v p:Value}(e:A7d P t H v p=some H'):H.next≤H'.next:=by
 unfold A7d at e;split at e
 ·obtain⟨n,_,e1⟩:=Option.bind_eq_some_iff.1 e
  cases hc:(Nat.beq (A6a v).length n&&(A6a v).all isCell) with
  | false=>rw[hc]at e1;cases e1
  | true=>rw[hc]at e1;rw[write_next e1];exact Nat.le_refl _
 ·cases e
theorem B4f{t:TypeId}{m k v:Value}(e:A3g P t m k v H=some H'):H.next≤H'.next:=by
 unfold A3g at e;split at e
 ·split at e
  ·rename_i kt _ _ _ _ _ _
   cases hc:A9l P kt k with
   | false=>rw[hc]at e;cases e
   | true=>
    rw[hc]at e;simp only[cond_true]at e;obtain⟨i,_,e1⟩:=Option.bind_eq_some_iff.1 e;cases i with
    | none=>injection e1 with e1;subst e1;exact Nat.le_refl _
    | some i=>
     simp only at e1;split at e1
     ·rename_i y _
      cases hv:veq y.1 k with
      | false=>rw[hv]at e1;cases e1
      | true=>rw[hv]at e1;injection e1 with e1;subst e1;exact Nat.le_refl _
     ·cases e1
  ·cases e
 ·cases e
theorem B78{t:TypeId}{m k:Value}(e:B4l P t m k H=some H'):H.next≤H'.next:=by
 unfold B4l at e;split at e
 ·split at e
  ·rename_i kt _ _ _ _ _ _
   cases hc:A9l P kt k with
   | false=>rw[hc]at e;cases e
   | true=>
    rw[hc]at e;simp only[cond_true]at e;obtain⟨i,_,e1⟩:=Option.bind_eq_some_iff.1 e;cases i<;>(injection e1 with e1;subst e1;exact Nat.le_refl _)
  ·cases e
 ·cases e
theorem C6e{s:Nat}{base:Option Addr}{len cap n:Nat}{new:List Value}{v:Value}(e:A5d s base len cap n new H=some (v,H')):H.next≤H'.next:=by
 unfold A5d at e;rw[A1b,Bool.cond_decide]at e;split at e
 ·simp only[Option.some.injEq,Prod.mk.injEq]at e;rw[←e.2];exact Nat.le_refl _
 ·cases base with
  | none=>
   simp only at e;cases hc:(Nat.beq len 0&&Nat.beq cap 0) with
   | false=>rw[hc]at e;cases e
   | true=>
    rw[hc]at e;simp only[cond_true,Option.some.injEq,Prod.mk.injEq]at e;obtain⟨_,rfl⟩:=e;rw[A82];omega
  | some a=>
   simp only at e;rw[A1b,Bool.cond_decide]at e;split at e
   ·have e2:=(A91 e).2
    simp only[Option.some.injEq,Prod.mk.injEq]at e2;obtain⟨_,rfl⟩:=e2;rw[A82];omega
   rw[A0c,Bool.cond_decide]at e;split at e
   ·obtain⟨H1,h1,e1⟩:=Option.map_eq_some_iff.1 e
    simp only[Prod.mk.injEq]at e1;rw[←e1.2,write_next h1];exact Nat.le_refl _
   ·obtain⟨old,_,e1⟩:=Option.bind_eq_some_iff.1 e
    cases hx:A9w cap with
    | true=>
     rw[hx]at e1;simp only[cond_true,Option.some.injEq,Prod.mk.injEq]at e1;obtain⟨_,rfl⟩:=e1;rw[A82];omega
    | false=>
     rw[hx]at e1;simp only[cond_false]at e1;split at e1
     ·obtain⟨r,_,e2⟩:=Option.bind_eq_some_iff.1 e1
      cases hz:Nat.beq r.esz s with
      | false=>rw[hz]at e2;cases e2
      | true=>
       rw[hz]at e2;simp only[Bool.not_true,cond_false,Option.some.injEq,Prod.mk.injEq]at e2;rw[←e2.2];exact Nat.le_refl _
     ·cases e1
theorem A3d{α:Type}{c:Bool}{x:Option α}{y:α}(h:(bif c then x else none)=some y):c=true∧x=some y:=by
 cases c with
 | true=>exact⟨rfl,h⟩
 | false=>cases h
theorem A8g{v x:Value}(e:some (x,H)=some (v,H')):H.next≤H'.next:=by
 simp only[Option.some.injEq,Prod.mk.injEq]at e;rw[e.2];exact Nat.le_refl _
theorem B86{b:Builtin}{ts:List TypeId}{args:List Value}{v:Value}(e:A3a P b ts args H=some (v,H')):H.next≤H'.next:=by
 unfold A3a at e;split at e
 ·split at e
  ·obtain⟨i,_,e1⟩:=Option.bind_eq_some_iff.1 e
   obtain⟨z,_,e2⟩:=Option.bind_eq_some_iff.1 e1;obtain⟨_,e3⟩:=A3d e2;obtain⟨r,_,e4⟩:=Option.bind_eq_some_iff.1 e3;exact C6e (A3d e4).2
  ·cases e
 ·split at e
  ·exact A8g e
  ·exact A8g e
  ·obtain⟨es,_,e1⟩:=Option.map_eq_some_iff.1 e
   exact A8g (congrArg some e1)
  ·exact A8g e
  ·cases e
 ·exact A8g (A3d e).2
 ·exact A8g (A3d e).2
 ·exact A8g (A3d e).2
 ·exact A8g (A3d e).2
 ·obtain⟨H1,h1,e1⟩:=Option.map_eq_some_iff.1 e
  simp only[Prod.mk.injEq]at e1;rw[←e1.2];exact B78 h1
 ·cases e
def A9m(call:A1d):Prop:=∀f args H v H',call f args H=some (v,H')→H.next≤H'.next
theorem A57{call:A1d}(hc:A9m call){F:Fr}{o:Oper}{v:Value}(e:aop P call F H o=some (v,H')):H.next≤H'.next:=by
 unfold aop at e;cases hop:o.op<;>rw[hop]at e<;>simp only at e<;>try (cases e;done)
 case move x=>exact A2g e
 case assign x=>exact A2g e
 case pick c x y=>
  split at e
  ·exact A2g e
  ·exact A2g e
  ·cases e
 case alloc t=>obtain⟨z,_,e1⟩:=Option.bind_eq_some_iff.1 e;exact B55 e1
 case box t x=>obtain⟨z,_,e1⟩:=Option.bind_eq_some_iff.1 e;exact B55 e1
 case build t ps=>obtain⟨z,_,e1⟩:=Option.bind_eq_some_iff.1 e;exact A2g e1
 case buildSlice t n ps=>
  obtain⟨vs,_,e1⟩:=Option.bind_eq_some_iff.1 e;unfold A4a at e1;split at e1
  ·obtain⟨s,_,e2⟩:=Option.bind_eq_some_iff.1 e1
   obtain⟨z,_,e3⟩:=Option.bind_eq_some_iff.1 e2;obtain⟨l,_,e4⟩:=Option.map_eq_some_iff.1 (A3d e3).2;simp only[Prod.mk.injEq]at e4;obtain⟨_,rfl⟩:=e4;rw[A82];omega
  ·cases e1
 case insert t m k x=>
  obtain⟨m',_,e1⟩:=Option.bind_eq_some_iff.1 e;obtain⟨k',_,e2⟩:=Option.bind_eq_some_iff.1 e1;obtain⟨x',_,e3⟩:=Option.bind_eq_some_iff.1 e2;exact B4f (A0w e3).1
 case load t x=>obtain⟨z,_,e1⟩:=Option.bind_eq_some_iff.1 e;exact A2g e1
 case store t x y=>
  obtain⟨z,_,e1⟩:=Option.bind_eq_some_iff.1 e;obtain⟨z,_,e2⟩:=Option.bind_eq_some_iff.1 e1;exact B49 (A0w e2).1
 case nilCheck x=>
  obtain⟨z,_,e1⟩:=Option.bind_eq_some_iff.1 e;split at e1
  ·exact A8g e1
  ·exact A8g e1
  ·cases e1
 case binOp op t x y yt=>
  obtain⟨z,_,e1⟩:=Option.bind_eq_some_iff.1 e;obtain⟨z,_,e2⟩:=Option.bind_eq_some_iff.1 e1;exact A2g e2
 case unOp op t x=>obtain⟨z,_,e1⟩:=Option.bind_eq_some_iff.1 e;exact A2g e1
 case convert s d x=>
  obtain⟨z,_,e1⟩:=Option.bind_eq_some_iff.1 e;unfold A2i at e1;split at e1
  ·exact A8g e1
  ·exact A8g e1
  ·split at e1
   ·split at e1
    ·exact A8g e1
    ·rw[A1b,Bool.cond_decide]at e1
     split at e1
     ·cases e1
     ·obtain⟨l,_,e2⟩:=Option.bind_eq_some_iff.1 e1
      obtain⟨bs,_,e3⟩:=Option.map_eq_some_iff.1 e2;exact A8g (congrArg some e3)
   ·cases e1
  ·cases e1
 case makeInterface t x=>
  obtain⟨z,_,e1⟩:=Option.bind_eq_some_iff.1 e;split at e1
  ·cases e1
  ·cases e1
  ·exact A8g e1
 case makeFunc fn fi cs=>
  obtain⟨z,_,e1⟩:=Option.bind_eq_some_iff.1 e;obtain⟨z,_,e2⟩:=Option.bind_eq_some_iff.1 e1;exact A8g e2
 case makeMap t r=>
  cases r with
  | some r=>cases e
  | none=>
   simp only[Option.some.injEq,Prod.mk.injEq]at e;obtain⟨_,rfl⟩:=e;exact Nat.le_succ _
 case makeSlice t l c=>
  obtain⟨z,_,e1⟩:=Option.bind_eq_some_iff.1 e;obtain⟨z,_,e2⟩:=Option.bind_eq_some_iff.1 e1;unfold A4f at e2;split at e2
  ·obtain⟨i,_,e3⟩:=Option.bind_eq_some_iff.1 e2
   obtain⟨z,_,e4⟩:=Option.bind_eq_some_iff.1 e3;have e5:=(A3d e4).2;simp only[Option.some.injEq,Prod.mk.injEq]at e5;obtain⟨_,rfl⟩:=e5;rw[A82];omega
  ·cases e2
 case slice t x lo hi mx=>
  obtain⟨z,_,e1⟩:=Option.bind_eq_some_iff.1 e;obtain⟨z,_,e2⟩:=Option.bind_eq_some_iff.1 e1;obtain⟨z,_,e3⟩:=Option.bind_eq_some_iff.1 e2;obtain⟨z,_,e4⟩:=Option.bind_eq_some_iff.1 e3;exact A2g e4
 case fieldAddr t x f=>obtain⟨z,_,e1⟩:=Option.bind_eq_some_iff.1 e;exact A2g e1
 case field t x f=>obtain⟨z,_,e1⟩:=Option.bind_eq_some_iff.1 e;exact A2g e1
 case indexAddr t x i=>
  obtain⟨z,_,e1⟩:=Option.bind_eq_some_iff.1 e;obtain⟨z,_,e2⟩:=Option.bind_eq_some_iff.1 e1;exact A2g e2
 case index t x i=>
  obtain⟨z,_,e1⟩:=Option.bind_eq_some_iff.1 e;obtain⟨z,_,e2⟩:=Option.bind_eq_some_iff.1 e1;exact A2g e2
 case lookup t m k ok=>
  obtain⟨z,_,e1⟩:=Option.bind_eq_some_iff.1 e;obtain⟨z,_,e2⟩:=Option.bind_eq_some_iff.1 e1;exact A2g e2
 case mapUpdate t m k x=>
  obtain⟨m',_,e1⟩:=Option.bind_eq_some_iff.1 e;obtain⟨k',_,e2⟩:=Option.bind_eq_some_iff.1 e1;obtain⟨x',_,e3⟩:=Option.bind_eq_some_iff.1 e2;exact B4f (A0w e3).1
 case typeAssert x xt t ok=>
  obtain⟨z,_,e1⟩:=Option.bind_eq_some_iff.1 e;split at e1
  ·have e2:=(A3d e1).2
   split at e2
   ·cases e2
   ·cases e2
   ·exact A8g e2
  ·cases e1
 case extract t i=>
  obtain⟨z,_,e1⟩:=Option.bind_eq_some_iff.1 e;split at e1
  ·exact A2g e1
  ·cases e1
 case call c=>
  obtain⟨args,_,e1⟩:=Option.bind_eq_some_iff.1 e;split at e1
  ·exact B86 e1
  ·obtain⟨f,_,e2⟩:=Option.bind_eq_some_iff.1 e1
   unfold C4q at e2;split at e2
   ·exact hc _ _ _ _ _ e2
   ·cases e2
  ·obtain⟨f,_,e2⟩:=Option.bind_eq_some_iff.1 e1
   unfold B3j at e2;split at e2
   ·obtain⟨i,_,e3⟩:=Option.bind_eq_some_iff.1 e2
    obtain⟨m,_,e4⟩:=Option.bind_eq_some_iff.1 e3;have e5:=(A3d e4).2;split at e5
    ·exact hc _ _ _ _ _ e5
    ·cases e5
    ·obtain⟨x,hx,e6⟩:=Option.bind_eq_some_iff.1 e5
     exact hc _ _ _ _ _ e6
    ·exact hc _ _ _ _ _ e5
    ·cases e5
   ·cases e2
end
def C6t(nt:Nat)(o:Oper):Bool:=
 match o.dst with
 | none=>true
 | some t=>Nat.blt t nt
section
variable {P:Program} {B:Nat}
def B8b(P:Program)(call:A1d):Prop:=∀f args H v H',call f args H=some (v,H')→∀B ρ w args',VRels ρ args args'→HRel B ρ H w→
 Calls P f args'.toArray w fun e w'=>∃ρ' v',e=.returned v'∧VRel ρ' v v'∧HRel B ρ' H' w'∧Trans B H.next ρ w ρ' w'
theorem op_wp{ρ:Map}{w:World}{H H':AH}{call:A1d}(hcall:B8b P call)(hH:HRel B ρ H w){o:Oper}{a:Act}{v:Value}(h:OpOk P B ρ w call H v H' ((execOp a.eval o).run P w)){K:Act→World→Prop}{Q:Exit→Act→World→Prop}
  (hk:∀ρ' v' w',VRel ρ' v v'→HRel B ρ' H' w'→Trans B H.next ρ w ρ' w'→K (a.put o.dst v') w'):o.wp P a w K Q:=by
 unfold Oper.wp;rcases h with⟨w',ρ',h1,h2,h3⟩|⟨f,args,args',h1,h2,h3⟩
 ·rcases h3 with⟨v',e,hv⟩|⟨e,rfl⟩
  ·rw[e]
   exact hk ρ' v' w' hv h1 h2
  ·rw[e]
   exact hk ρ' undef w' A30 h1 h2
 ·rw[h3,Oper.upon_enter]
  refine(hcall f args H v H' h1 B ρ w args' h2 hH).mono ?_;rintro e w' ⟨ρ',v',rfl,hv,h4,h5⟩;exact hk ρ' v' w' hv h4 h5
theorem FRel.put{ρ:Map}{F:Fr}{a:Act}(h:FRel ρ F a){v v':Value}(hv:VRel ρ v v'){dst:Option Tmp}(hd:∀t,dst=some t→t<a.tmps.size):FRel ρ (Sh.put F dst v) (a.put dst v'):=by
 cases dst with
 | none=>exact h
 | some d=>
  intro t x e;simp only[Sh.put]at e;rw[Tr.get_set]at e;simp only[Act.put];by_cases ht:t=d
  ·subst ht
   rw[if_pos rfl]at e;injection e with e
   subst e;exact⟨v',by simp[hd t rfl],hv⟩
  ·rw[if_neg ht]at e
   obtain⟨x',h1,h2⟩:=h t x e;exact⟨x',by rw[Array.getElem?_setIfInBounds_ne (Ne.symm ht)];exact h1,h2⟩
theorem A3u(a:Act)(dst:Option Tmp)(v:Value):(a.put dst v).tmps.size=a.tmps.size∧(a.put dst v).defers=a.defers:=by
 cases dst<;>simp[Act.put]
theorem C4g{ρ:Map}{F:Fr}{a:Act}(h:FRel ρ F a){ops:Array Oper}{o:Oper}{b:Bool}(e:A3m ops.toList F o=some b):Region.wanted o (yielded ops a.tmps)=b:=by
 unfold A3m at e;unfold Region.wanted;split at e
 ·rename_i hg
  injection e with e
  rw[hg];exact e
 ·rename_i j want hg
  rw[hg];simp only;unfold yielded;have harr:ops.toList[j]?=ops[j]?:=by simp
  rw[harr]at e;split at e
  ·rename_i b' hb
   obtain⟨t,ht,hb'⟩:=Option.bind_eq_some_iff.1 hb;obtain⟨x',h1,h2⟩:=h t _ hb';have:=A6n h2;subst this;rw[ht];simp only[Option.bind_some,h1];injection e with e
   try subst e
   try (cases b'<;>cases want<;>rfl)
  ·rename_i y hy hb
   obtain⟨t,ht,hb'⟩:=Option.bind_eq_some_iff.1 hb;obtain⟨x',h1,h2⟩:=h t _ hb';have htag:=h2.tag;rw[ht];simp only[Option.bind_some,h1];injection e with e
   subst e;have:∀b,x'≠.bool b:=by
    rintro b rfl;cases y<;>simp[tag]at htag;exact hy _ rfl
   cases x'<;>first|rfl|exact absurd rfl (this _)
  ·cases e
theorem B0j(hN:B6m P){call:A1d}(hb:A1v P call)(hn:A9m call)(hcall:B8b P call)(all:Array Oper)(nt:Nat)(hd:∀o∈all.toList,C6t nt o=true){Q:Exit→Act→World→Prop}{F':Fr}{H':AH}:
  ∀(m i:Nat) (F:Fr) (H:AH) (ρ:Map) (a:Act) (w:World),i+m=all.size→A6o P call all.toList (all.toList.drop i) F H=some (F',H')→FRel ρ F a→a.tmps.size=nt→a.defers=[]→HRel B ρ H w→
   (∀ρ' a' w',FRel ρ' F' a'→a'.tmps.size=nt→a'.defers=[]→HRel B ρ' H' w'→Trans B H.next ρ w ρ' w'→H.next≤H'.next→Q .normal a' w')→wpOps P all Q (List.range' i m) a w
 | 0,i,F,H,ρ,a,w,him,e,hF,hnt,hdf,hH,hQ=>by
  rw[List.drop_of_length_le (by simp;omega)]at e;injection e with e
  injection e with e1 e2
  subst e1 e2;exact hQ ρ a w hF hnt hdf hH (Trans.refl _ _ _ _) (Nat.le_refl _)
 | m+1,i,F,H,ρ,a,w,him,e,hF,hnt,hdf,hH,hQ=>by
  have hi:i<all.toList.length:=by simp;omega
  rw[List.drop_eq_getElem_cons hi]at e;have ho:all[i]?=some all.toList[i]:=by simp[Array.getElem?_eq_getElem (show i<all.size by omega)]
  have hmem:=List.getElem_mem hi;generalize all.toList[i]=o at e ho hmem;have hdo:∀t,o.dst=some t→t<a.tmps.size:=by
   intro t ht;have:=hd o hmem;unfold C6t at this;rw[ht]at this;simp only[A1j,decide_eq_true_eq]at this;rw[hnt];exact this
  simp only[A6o]at e;simp only[List.range'_succ,wpOps,ho];cases hw:A3m all.toList F o with
  | none=>rw[hw]at e;cases e
  | some b=>
   rw[hw]at e;have hwant:=C4g hF hw;rw[hwant];cases b with
   | false=>
    simp only[Bool.false_eq_true,if_false];refine B0j hN hb hn hcall all nt hd m (i+1) _ H ρ (a.put o.dst undef) w (by omega) e (hF.put A30 hdo) (by rw[(A3u a o.dst undef).1];exact hnt) (by rw[(A3u a o.dst undef).2];exact hdf) hH hQ
   | true=>
    simp only[if_true];left;simp only at e;cases hop:aop P call F H o with
    | none=>rw[hop]at e;cases e
    | some r=>
     obtain⟨v,H1⟩:=r;rw[hop]at e;simp only at e;have hnx:=A57 hn hop;refine op_wp hcall hH (C48 hN hb hF hH hop) (fun ρ1 v' w1 hv hH1 ht=>?_);refine B0j hN hb hn hcall all nt hd m (i+1) _ H1 ρ1 (a.put o.dst v') w1 (by omega) e ((hF.mono ht.le).put hv hdo) (by rw[(A3u a o.dst v').1];exact hnt) (by rw[(A3u a o.dst v').2];exact hdf) hH1
      (fun ρ' a' w' f1 f2 f3 f4 f5 f6=>hQ ρ' a' w' f1 f2 f3 f4 (ht.trans f5 hnx) (Nat.le_trans hnx f6))
theorem B8g:∀(vs:List Value) (i:Nat) (F:Fr) (t:Nat),(B3v vs i F).get t=if i≤t∧t<i+vs.length then vs[t-i]? else F.get t
 | [],i,F,t=>by simp only[B3v];rw[if_neg (by rintro⟨h1,h2⟩;simp only[List.length_nil]at h2;omega)]
 | v :: vs,i,F,t=>by
  simp only[B3v];rw[B8g vs (i+1)];by_cases h:i+1≤t∧t<i+1+vs.length
  ·rw[if_pos h,if_pos (by simp;omega)]
   have:t-i=(t-(i+1))+1:=by omega
   rw[this,List.getElem?_cons_succ]
  ·rw[if_neg h,Tr.get_set]
   by_cases ht:t=i
   ·subst ht
    rw[if_pos rfl,if_pos (by simp)];simp
   ·rw[if_neg ht,if_neg (by simp;omega)]
theorem C4e{ρ:Map}{args args':List Value}{nt:Nat}(h:VRels ρ args args')(hl:args.length≤nt):
  FRel ρ (B3v args 0 .nil) { tmps:=args'.toArray++Array.replicate (nt-args'.toArray.size) undef,defers:=[] }∧(args'.toArray++Array.replicate (nt-args'.toArray.size) undef:Array Value).size=nt:=by
 have hlen:=h.length;refine⟨fun t v e=>?_,by simp;omega⟩;rw[B8g]at e;split at e
 ·rename_i ht
  rw[Nat.sub_zero]at e;obtain⟨u,h1,h2⟩:=h.get e;have:=(List.getElem?_eq_some_iff.1 h1).1;exact⟨u,by rw[Array.getElem?_append_left (by simpa using this)];simpa using h1,h2⟩
 ·cases e
def C45(a:Act):ResultVar→Sem Value
 | .tmp t=>pure (a.tmps.getD t undef)
 | .cell p t=>do loadVar t (←asAddr (a.tmps.getD p undef))
theorem A29{ρ:Map}{w:World}{F:Fr}{H:AH}{a:Act}(hF:FRel ρ F a)(hH:HRel B ρ H w):∀{rs:List ResultVar} {vs:List Value},resultsA P F H rs=some vs→
  ∃us:List Value,(rs.mapM (C45 a)).run P w=.ok us w∧VRels ρ vs us
 | [],vs,e=>by injection e with e;subst e;exact⟨[],by simp,VRels.nil⟩
 | .tmp t :: rs,vs,e=>by
  simp only[resultsA]at e;obtain⟨v,h1,e1⟩:=Option.bind_eq_some_iff.1 e;obtain⟨vs',h2,e2⟩:=Option.map_eq_some_iff.1 e1;subst e2;obtain⟨us,g1,g2⟩:=A29 hF hH h2;obtain⟨v',k1,k2⟩:=hF t v h1;have hget:a.tmps.getD t undef=v':=by simp[Array.getD_eq_getD_getElem?,k1]
  exact⟨v' :: us,by simp only[List.mapM_cons,C45,Sem.run_bind,Sem.run_pure,Result.andThen_ok,g1,hget],VRels.cons k2 g2⟩
 | .cell p t :: rs,vs,e=>by
  simp only[resultsA]at e;obtain⟨q,h0,e0⟩:=Option.bind_eq_some_iff.1 e;obtain⟨v,h1,e1⟩:=Option.bind_eq_some_iff.1 e0;obtain⟨vs',h2,e2⟩:=Option.map_eq_some_iff.1 e1;subst e2;obtain⟨us,g1,g2⟩:=A29 hF hH h2;obtain⟨q',k1,k2⟩:=hF p q h0;have hget:a.tmps.getD p undef=q':=by simp[Array.getD_eq_getD_getElem?,k1]
  obtain⟨v',r1,r2⟩:=C1a (P:=P) hH k2 h1;have hptr:∃ad,q'=.pointer (some ad):=by
   cases q with
   | pointer ad=>cases ad with
    | none=>cases h1
    | some ad=>obtain⟨L,k,_,_,hh⟩:=A0q k2;exact⟨_,hh⟩
   | _=>cases h1
  obtain⟨ad,rfl⟩:=hptr;simp only[Instr.loadAt,Instr.sureAddr,Sem.run_bind,Sem.run_pure,Result.andThen_ok]at r1;exact⟨v' :: us,by
   have hA:(asAddr (.pointer (some ad))).run P w=.ok ad w:=rfl;simp only[List.mapM_cons,C45,Sem.run_bind,Sem.run_pure,Result.andThen_ok,g1,hget,hA,r1],VRels.cons r2 g2⟩
theorem one_ok{ρ:Map}{vs us:List Value}(h:VRels ρ vs us):VRel ρ (Sh.one vs) (if h:us.toArray.size=1 then us.toArray[0] else .tuple us.toArray):=by
 cases vs with
 | nil=>
  unfold VRels at h;subst h;simp only[Sh.one];rw[dif_neg (by simp)];unfold VRel;exact⟨[],rfl,VRels.nil⟩
 | cons v vs=>
  cases vs with
  | nil=>
   obtain⟨u,rfl,hu⟩:=h.one
   simpa [Sh.one] using hu
  | cons v2 vs=>
   have hl:=h.length;simp only[Sh.one];rw[dif_neg (by simp at hl ⊢;omega)];unfold VRel;exact⟨us,rfl,h⟩
theorem C6u{ρ:Map}{w:World}{F:Fr}{H:AH}{a:Act}{fn:Func}(hF:FRel ρ F a)(hH:HRel B ρ H w){vs:List Value}(e:resultsA P F H fn.results.toList=some vs):∃v',(results fn a.tmps).run P w=.ok v' w∧VRel ρ (Sh.one vs) v':=by
 obtain⟨us,h1,h2⟩:=A29 (P:=P) hF hH e;refine⟨_,?_,one_ok h2⟩;have hm:(fn.results.mapM (C45 a)).run P w=.ok us.toArray w:=by
  rw[←Array.toArray_toList (xs:=fn.results),List.mapM_toArray,Sem.run_map,h1];rfl
 have:results fn a.tmps=(do let vs ←fn.results.mapM (C45 a);pure (if h:vs.size=1 then vs[0] else .tuple vs)):=by
  unfold results
  congr 1
  try (congr 1;funext r;cases r<;>rfl)
 rw[this];simp only[Sem.run_bind,hm,Result.andThen_ok,Sem.run_pure]
theorem A73{call:A1d}(hn:A9m call){all:List Oper}{F':Fr}{H':AH}:∀{l:List Oper} {F:Fr} {H:AH},A6o P call all l F H=some (F',H')→H.next≤H'.next
 | [],F,H,e=>by injection e with e;injection e with _ e;rw[e];exact Nat.le_refl _
 | o :: l,F,H,e=>by
  simp only[A6o]at e;split at e
  ·cases e
  ·exact A73 hn e
  ·split at e
   ·cases e
   ·rename_i hop
    exact Nat.le_trans (A57 hn hop) (A73 hn e)
theorem A1r{call:A1d}(hn:A9m call){all:List Oper}{bs:List Nat}{F':Fr}{H':AH}:∀{l:List Nat} {ps:List Pend} {F:Fr} {H:AH},A4e P call all bs l ps F H=some (F',H')→H.next≤H'.next
 | [],ps,F,H,e=>by injection e with e;injection e with _ e;rw[e];exact Nat.le_refl _
 | i :: l,ps,F,H,e=>by
  simp only[A4e]at e;split at e
  ·cases e
  ·rename_i o ho
   split at e
   ·cases e
   ·exact A1r hn e
   ·split at e
    ·cases e
    ·rename_i v H1 hop
     refine Nat.le_trans (A57 hn hop) ?_;cases hx:isEff o with
     | true=>
      rw[hx]at e;simp only[cond_true]at e;split at e
      ·exact A1r hn e
      ·cases e
     | false=>
      rw[hx]at e;simp only[cond_false]at e;cases hy:A2d o with
      | true=>
       rw[hy]at e;simp only[cond_true]at e;split at e
       ·exact A1r hn e
       ·cases e
      | false=>
       rw[hy]at e;simp only[cond_false]at e;cases hz:isRead o<;>rw[hz]at e<;>exact A1r hn e
def DrawOk(P:Program)(draws:List Oper→Bool):Prop:=∀(call:A1d),A1v P call→A9m call→B8b P call→∀(id:Nat) (all:Array Oper) (nt:Nat),draws all.toList=true→(∀o∈all.toList,C6t nt o=true)→
 ∀(B:Nat) (F F':Fr) (H H':AH) (ρ:Map) (a:Act) (w:World),region P call all.toList true F H=some (F',H')→FRel ρ F a→a.tmps.size=nt→a.defers=[]→HRel B ρ H w→
  (Code.region id all true).wp P (fun e a' w'=>e=.normal∧∃ρ',FRel ρ' F' a'∧a'.tmps.size=nt∧a'.defers=[]∧HRel B ρ' H' w'∧Trans B H.next ρ w ρ' w') a w
def codeOk(draws:List Oper→Bool)(nt:Nat):Code→Bool
 | .region _ ops draw=>ops.toList.all (C6t nt)&&(!draw||draws ops.toList)
 | .seq a b=>codeOk draws nt a&&codeOk draws nt b
 | .cond _ a b=>codeOk draws nt a&&codeOk draws nt b
 | .block _ c=>codeOk draws nt c
 | .loop c=>codeOk draws nt c
 | _=>true
def B9j(draws:List Oper→Bool)(nt:Nat):Item→Bool
 | .code c=>codeOk draws nt c
 | .inLoop c=>codeOk draws nt c
 | _=>true
def C06(P:Program)(draws:List Oper→Bool):Prop:=∀(f:Nat) fn c,P.funcs[f]?=some fn→fn.body=some c→codeOk draws fn.ntmps c=true
theorem B0b{id:Nat}:∀{S S':List Item},exitTo id S=some S'→∀x∈S',x∈S
 | [],S',h=>by cases h
 | y :: S,S',h=>by
  intro x hx;cases y<;>simp only[exitTo]at h<;>first
   | (split at h
      · injection h with h;subst h;exact List.mem_cons_of_mem _ hx
      · exact List.mem_cons_of_mem _ (B0b h x hx))
   | exact List.mem_cons_of_mem _ (B0b h x hx)
theorem B9a{O:A1d}{go:List Item→Fr→AH→Option (Fr×AH)}{f:FuncId}{args:List Value}{H H':AH}{v:Value}(e:enter P O go f args H=some (v,H')):
  O f args H=some (v,H')∨∃fn c F' vs,P.funcs[f]?=some fn∧fn.body=some c∧args.length≤fn.ntmps∧go [.code c] (B3v args 0 .nil) H=some (F',H')∧resultsA P F' H' fn.results.toList=some vs∧v=Sh.one vs:=by
 unfold enter at e;split at e
 ·rename_i r hr
  left;rw[hr];exact e
 right;split at e
 ·rename_i fn hf
  split at e
  ·rename_i c hc
   rw[A0c,Bool.cond_decide]at e;split at e
   ·rename_i hl
    split at e
    ·rename_i F' H1 hg
     obtain⟨vs,h1,h2⟩:=Option.map_eq_some_iff.1 e;simp only[Prod.mk.injEq]at h2;obtain⟨rfl,rfl⟩:=h2;exact⟨fn,c,F',vs,hf,hc,hl,hg,h1,rfl⟩
    ·cases e
   ·cases e
  ·cases e
 ·cases e
structure OrOk(P:Program)(O:A1d):Prop where
 body:A1v P O
 next:A9m O
 ok:B8b P O
theorem OrOk.mute:OrOk P mute:=⟨fun _ _ _ _ e=>(by cases e),fun _ _ _ _ _ e=>(by cases e),fun _ _ _ _ _ e=>(by cases e)⟩
def RunOk(P:Program)(O:A1d)(draws:List Oper→Bool)(n:Nat):Prop:=∀(S:List Item) (F F':Fr) (H H':AH),run P O n S F H=some (F',H')→H.next≤H'.next∧
 ∀(nt B:Nat) (ρ:Map) (a:Act) (w:World),(∀x∈S,B9j draws nt x=true)→FRel ρ F a→a.tmps.size=nt→a.defers=[]→HRel B ρ H w→
  ∀(b:Frame) (cs:List Frame),∃ρ' a' w' todo,Steps P (lone (b.at a S) cs w) (lone { b.at a' todo with mode:=.returning } cs w')∧FRel ρ' F' a'∧a'.defers=[]∧HRel B ρ' H' w'∧Trans B H.next ρ w ρ' w'
theorem B9v{O:A1d}(hO:OrOk P O){draws:List Oper→Bool}(hP:C06 P draws){n:Nat}(h:RunOk P O draws n):A1v P (enter P O (run P O n))∧A9m (enter P O (run P O n))∧B8b P (enter P O (run P O n)):=by
 refine⟨fun f args H r e=>?_,fun f args H v H' e=>?_,fun f args H v H' e B ρ w args' hargs hH=>?_⟩
 ·obtain⟨v,H'⟩:=r
  rcases B9a e with e|⟨fn,c,F',vs,h1,h2,_⟩
  ·exact hO.body _ _ _ _ e
  exact⟨fn,c,h1,h2⟩
 ·rcases B9a e with e|⟨fn,c,F',vs,h1,h2,h3,h4,_⟩
  ·exact hO.next _ _ _ _ _ e
  exact(h _ _ _ _ _ h4).1
 ·rcases B9a e with e|⟨fn,c,F',vs,h1,h2,h3,h4,h5,rfl⟩
  ·exact hO.ok _ _ _ _ _ e B ρ w args' hargs hH
  intro cs;obtain⟨hfr,hsz⟩:=C4e hargs h3
  let b:Frame:={ (default:Frame) with fn:=f,kind:=.normal }
  have henter:Frame.enter P f args'.toArray .normal=b.at { tmps:=args'.toArray++Array.replicate (fn.ntmps-args'.toArray.size) undef,defers:=[] } [.code c]:=by
   simp[Frame.enter,Frame.at,h1,h2,b]
  obtain⟨ρ',a',w',todo,g1,g2,g3,g4,g5⟩:=(h _ _ _ _ _ h4).2 fn.ntmps B ρ _ w (by
   intro x hx;simp only[List.mem_singleton]at hx;subst hx;exact hP f fn c h1 h2) hfr hsz rfl hH b cs
  rw[←henter]at g1;obtain⟨v',r1,r2⟩:=C6u (P:=P) (fn:=fn) g2 g4 h5;exact⟨.returned v',w',_,⟨ρ',v',rfl,r2,g4,g5⟩,g1,rfl,rfl,g3,rfl,fn,h1,r1⟩
theorem run_ok(hN:B6m P){O:A1d}(hO:OrOk P O){draws:List Oper→Bool}(hD:DrawOk P draws)(hP:C06 P draws):∀n,RunOk P O draws n
 | 0=>fun S F F' H H' e=>by cases e
 | n+1=>fun S F F' H H' e=>by
  have ih:=run_ok hN hO hD hP n;obtain⟨hb,hn,hcall⟩:=B9v hO hP ih;cases S with
  | nil=>
   simp only[run,Option.some.injEq,Prod.mk.injEq]at e;obtain⟨rfl,rfl⟩:=e;exact⟨Nat.le_refl _,fun nt B ρ a w hS hF hnt hdf hH b cs=>⟨ρ,a,w,[],.one step_end,hF,hdf,hH,Trans.refl _ _ _ _⟩⟩
  | cons x S=>
   cases x with
   | inBlock id=>
    simp only[run]at e;obtain⟨h1,h2⟩:=ih _ _ _ _ _ e;refine⟨h1,fun nt B ρ a w hS hF hnt hdf hH b cs=>?_⟩;obtain⟨ρ',a',w',todo,g1,g2⟩:=h2 nt B ρ a w (fun y hy=>hS y (List.mem_cons_of_mem _ hy)) hF hnt hdf hH b cs;exact⟨ρ',a',w',todo,.head step_inBlock g1,g2⟩
   | inLoop c=>
    simp only[run]at e;obtain⟨h1,h2⟩:=ih _ _ _ _ _ e;refine⟨h1,fun nt B ρ a w hS hF hnt hdf hH b cs=>?_⟩;obtain⟨ρ',a',w',todo,g1,g2⟩:=h2 nt B ρ a w (fun y hy=>by
     rcases List.mem_cons.1 hy with rfl|hy
     ·exact hS (.inLoop c) List.mem_cons_self
     ·exact hS y hy) hF hnt hdf hH b cs
    exact⟨ρ',a',w',todo,.head step_inLoop g1,g2⟩
   | code c=>
    cases c with
    | skip=>
     simp only[run]at e;obtain⟨h1,h2⟩:=ih _ _ _ _ _ e;refine⟨h1,fun nt B ρ a w hS hF hnt hdf hH b cs=>?_⟩;obtain⟨ρ',a',w',todo,g1,g2⟩:=h2 nt B ρ a w (fun y hy=>hS y (List.mem_cons_of_mem _ hy)) hF hnt hdf hH b cs;exact⟨ρ',a',w',todo,.head step_skip g1,g2⟩
    | seq x y=>
     simp only[run]at e;obtain⟨h1,h2⟩:=ih _ _ _ _ _ e;refine⟨h1,fun nt B ρ a w hS hF hnt hdf hH b cs=>?_⟩;have hc:=hS _ List.mem_cons_self;simp only[B9j,codeOk,Bool.and_eq_true]at hc;obtain⟨ρ',a',w',todo,g1,g2⟩:=h2 nt B ρ a w (fun z hz=>by
      rcases List.mem_cons.1 hz with rfl|hz
      ·exact hc.1
      ·rcases List.mem_cons.1 hz with rfl|hz
       ·exact hc.2
       ·exact hS z (List.mem_cons_of_mem _ hz)) hF hnt hdf hH b cs
     exact⟨ρ',a',w',todo,.head step_seq g1,g2⟩
    | cond q x y=>
     simp only[run]at e;split at e
     ·rename_i hq
      obtain⟨h1,h2⟩:=ih _ _ _ _ _ e;refine⟨h1,fun nt B ρ a w hS hF hnt hdf hH b cs=>?_⟩;have hc:=hS _ List.mem_cons_self;simp only[B9j,codeOk,Bool.and_eq_true]at hc;obtain⟨ρ',a',w',todo,g1,g2⟩:=h2 nt B ρ a w (fun z hz=>by
       rcases List.mem_cons.1 hz with rfl|hz
       ·exact hc.1
       ·exact hS z (List.mem_cons_of_mem _ hz)) hF hnt hdf hH b cs
      have hst:=step_cond (P:=P) (b:=b) (a:=a) (k:=S) (cs:=cs) (w:=w) (x:=x) (y:=y) (A6n (A8e hF hq));simp only[if_true]at hst;exact⟨ρ',a',w',todo,.head hst g1,g2⟩
     ·rename_i hq
      obtain⟨h1,h2⟩:=ih _ _ _ _ _ e;refine⟨h1,fun nt B ρ a w hS hF hnt hdf hH b cs=>?_⟩;have hc:=hS _ List.mem_cons_self;simp only[B9j,codeOk,Bool.and_eq_true]at hc;obtain⟨ρ',a',w',todo,g1,g2⟩:=h2 nt B ρ a w (fun z hz=>by
       rcases List.mem_cons.1 hz with rfl|hz
       ·exact hc.2
       ·exact hS z (List.mem_cons_of_mem _ hz)) hF hnt hdf hH b cs
      have hst:=step_cond (P:=P) (b:=b) (a:=a) (k:=S) (cs:=cs) (w:=w) (x:=x) (y:=y) (A6n (A8e hF hq));simp only[Bool.false_eq_true,if_false]at hst;exact⟨ρ',a',w',todo,.head hst g1,g2⟩
     ·cases e
    | block id c=>
     simp only[run]at e;obtain⟨h1,h2⟩:=ih _ _ _ _ _ e;refine⟨h1,fun nt B ρ a w hS hF hnt hdf hH b cs=>?_⟩;have hc:=hS _ List.mem_cons_self;simp only[B9j,codeOk]at hc;obtain⟨ρ',a',w',todo,g1,g2⟩:=h2 nt B ρ a w (fun z hz=>by
      rcases List.mem_cons.1 hz with rfl|hz
      ·exact hc
      ·rcases List.mem_cons.1 hz with rfl|hz
       ·rfl
       ·exact hS z (List.mem_cons_of_mem _ hz)) hF hnt hdf hH b cs
     exact⟨ρ',a',w',todo,.head step_block g1,g2⟩
    | loop c=>
     simp only[run]at e;obtain⟨h1,h2⟩:=ih _ _ _ _ _ e;refine⟨h1,fun nt B ρ a w hS hF hnt hdf hH b cs=>?_⟩;have hc:=hS _ List.mem_cons_self;simp only[B9j,codeOk]at hc;obtain⟨ρ',a',w',todo,g1,g2⟩:=h2 nt B ρ a w (fun z hz=>by
      rcases List.mem_cons.1 hz with rfl|hz
      ·exact hc
      ·rcases List.mem_cons.1 hz with rfl|hz
       ·exact hc
       ·exact hS z (List.mem_cons_of_mem _ hz)) hF hnt hdf hH b cs
     exact⟨ρ',a',w',todo,.head step_loop g1,g2⟩
    | exit id=>
     simp only[run]at e;split at e
     ·rename_i S' hS'
      obtain⟨h1,h2⟩:=ih _ _ _ _ _ e;refine⟨h1,fun nt B ρ a w hS hF hnt hdf hH b cs=>?_⟩;obtain⟨ρ',a',w',todo,g1,g2⟩:=h2 nt B ρ a w (fun z hz=>hS z (List.mem_cons_of_mem _ (B0b hS' z hz))) hF hnt hdf hH b cs;exact⟨ρ',a',w',todo,.head (step_exit hS') g1,g2⟩
     ·cases e
    | ret=>
     simp only[run,Option.some.injEq,Prod.mk.injEq]at e;obtain⟨rfl,rfl⟩:=e;exact⟨Nat.le_refl _,fun nt B ρ a w hS hF hnt hdf hH b cs=>⟨ρ,a,w,_,.one step_ret,hF,hdf,hH,Trans.refl _ _ _ _⟩⟩
    | region id ops draw=>
     simp only[run]at e;split at e
     ·rename_i F1 H1 hr
      obtain⟨h1,h2⟩:=ih _ _ _ _ _ e;have hnx:H.next≤H1.next:=by
       cases draw with
       | false=>exact A73 hn hr
       | true=>exact A1r hn hr
      refine⟨Nat.le_trans hnx h1,fun nt B ρ a w hS hF hnt hdf hH b cs=>?_⟩;have hc:=hS _ List.mem_cons_self;simp only[B9j,codeOk,Bool.and_eq_true,Bool.or_eq_true,Bool.not_eq_true',List.all_eq_true]at hc;have hwp:(Code.region id ops draw).wp P (fun e a' w'=>e=.normal∧∃ρ',FRel ρ' F1 a'∧a'.tmps.size=nt∧a'.defers=[]∧HRel B ρ' H1 w'∧Trans B H.next ρ w ρ' w') a w:=by
       cases draw with
       | false=>
        refine wp_region ?_;rw[List.range_eq_range'];exact B0j hN hb hn hcall ops nt hc.1 ops.size 0 F H ρ a w (by omega) hr hF hnt hdf hH (fun ρ' a' w' f1 f2 f3 f4 f5 _=>⟨rfl,ρ',f1,f2,f3,f4,f5⟩)
       | true=>
        exact hD _ hb hn hcall id ops nt (by rcases hc.2 with x|x;cases x;exact x) hc.1 B F F1 H H1 ρ a w hr hF hnt hdf hH
      obtain⟨ex,a1,w1,⟨rfl,ρ1,f1,f2,f3,f4,f5⟩,harr⟩:=hwp b S cs;obtain⟨ρ',a',w',todo,g1,g2,g3,g4,g5⟩:=h2 nt B ρ1 a1 w1 (fun z hz=>hS z (List.mem_cons_of_mem _ hz)) f1 f2 f3 f4 b cs;exact⟨ρ',a',w',todo,Steps.trans harr g1,g2,g3,g4,f5.trans g5 hnx⟩
     ·cases e
    | _=>cases e
   | _=>cases e
end
end Go.Proofs.Sh
