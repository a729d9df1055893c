/- A part of the proof: ShStack. -/
import Derived.Test.YtjjgodccecehlaaGreatMClose2RelChained17
set_option linter.unusedVariables false
set_option linter.unusedSimpArgs false
/- A word that grows and shrinks in one row of room, as a path of a search does. -/
namespace Go.Proofs.Sh
open Go
inductive Stk(H:AH):Value→List Nat→Option Nat→Prop where
 | void (a:Option Addr):Stk H (.slice a 0 0) [] none
 | own (g k : Nat) (l : List Nat) (rs : List Row) (r : Row) (h1 : H.objs.get g = some (.rows rs true)) (h2 : rs[k]? = some r) (h3 : r.ok = true) (h4 : r.esz = 1) (h5 : r.pos = 0) (h6 : r.vals = flat (l.map natC)) (h7 : l ≠ []) :
     Stk H (.slice (some ⟨g, 0, some k⟩) l.length (l.length + big)) l (some g)
def StkKept(H H':AH)(g L:Nat):Prop:=∀rs,H.objs.get g=some (.rows rs true)→∃rs',H'.objs.get g=some (.rows rs' true)∧∀(k:Nat) r,rs[k]?=some r→r.pos=0→r.vals.length≤L→rs'[k]?=some r
theorem StkKept.same{H H':AH}{g L:Nat}(h:H'.objs.get g=H.objs.get g):StkKept H H' g L:=fun rs hrs=>⟨rs,by rw[h];exact hrs,fun _ _ h _ _=>h⟩
theorem StkKept.trans{H H1 H2:AH}{g L L2:Nat}(h:StkKept H H1 g L)(k:StkKept H1 H2 g L2)(hL:L≤L2):StkKept H H2 g L:=by
 intro rs hrs;obtain⟨rs1,h1,h2⟩:=h rs hrs;obtain⟨rs2,h3,h4⟩:=k rs1 h1;exact⟨rs2,h3,fun k r hr hp hl=>h4 k r (h2 k r hr hp hl) hp (by omega)⟩
theorem A96(l:List Nat):(flat (l.map natC)).length=l.length:=by
 rw[flat_length (s:=1) (by intro x hx;obtain⟨y,_,rfl⟩:=List.mem_map.1 hx;rfl)];simp
section
variable {H:AH} {v:Value} {l:List Nat} {b:Option Nat}
theorem Stk.keep{H':AH}(h:Stk H v l b)(hk:∀y,b=some y→StkKept H H' y l.length):Stk H' v l b:=by
 cases h with
 | void a=>exact .void a
 | own g k l rs r h1 h2 h3 h4 h5 h6 h7=>
  obtain⟨rs',h8,h9⟩:=hk g rfl rs h1;exact .own g k l rs' r h8 (h9 k r h2 h5 (by rw[h6,A96];exact Nat.le_refl _)) h3 h4 h5 h6 h7
theorem Stk.chg{X:Nat→Prop}{H':AH}(h:Stk H v l b)(hw:Wf H)(hc:Chg X H H')(hx:∀y,b=some y→¬X y):Stk H' v l b:=by
 refine h.keep fun y hy=>StkKept.same (hc.old y ?_ (hx y hy));cases h with
 | void a=>cases hy
 | own g k l rs r h1=>rw[←Option.some.inj hy];exact hw _ _ h1
theorem Stk.lt(h:Stk H v l b)(hw:Wf H):∀y,b=some y→y<H.next:=by
 intro y hy;cases h with
 | void a=>cases hy
 | own g k l rs r h1=>rw[←Option.some.inj hy];exact hw _ _ h1
theorem Stk.sl(h:Stk H v l b):Sl H v 1 (l.map natC):=by
 cases h with
 | void a=>exact(Buf.void (H:=H) (s:=1) a).toSl
 | own g k l rs r h1 h2 h3 h4 h5 h6 h7=>
  have:=(Buf.own (H:=H) (s:=1) g k (l.length+big) (l.map natC) (flat (l.map natC)) ⟨rs,r,h1,h2,h3,h4,h6⟩ (by rw[A0o];exact List.length_pos_iff.2 h7) (by rw[A0o,A96];omega) (by rw[A0o,List.length_map];exact Nat.le_refl _) (by rw[List.length_map,Nat.mul_one];conv=>lhs;rw[←A96 l,List.take_length]) (by intro x hx;obtain⟨y,_,rfl⟩:=List.mem_map.1 hx;rfl)).toSl;rw[List.length_map]at this;exact this
theorem Stk.push(h:Stk H v l b)(hw:Wf H)(x:Nat):
  ∃a cap v' H' b',v=.slice a l.length cap∧A5d 1 a l.length cap 1 [.int .i64 (x:Int)] (H.new 1 [.int .i64 (x:Int)]).2=some (v',H')∧Stk H' v' (l++[x]) b'∧Chg (fun y=>b=some y) H H'∧(b'=b∨b=none∧∀y,b'=some y→H.next≤y)∧∀y,b=some y→StkKept H H' y l.length:=by
 have kn:=Kept.new hw 1 [.int .i64 (x:Int)];generalize hH1:(H.new 1 [.int .i64 (x:Int)]).2=H1 at kn;have hx1:H.next<H1.next:=by rw[←hH1];exact Nat.lt_succ_self _
 cases h with
 | void a=>
  have e:A5d 1 a 0 0 1 [.int .i64 (x:Int)] H1=some (.slice (some ⟨H1.next,0,some 0⟩) 1 (1+big),(H1.new 1 [.int .i64 (x:Int)]).2):=by
   unfold A5d;cases a<;>rfl
  have kn2:=Kept.new kn.wf 1 [.int .i64 (x:Int)];refine⟨a,0,_,_,some H1.next,rfl,e,?_,(kn.trans kn2).chg,.inr ⟨rfl,fun y hy=>by rw[←Option.some.inj hy];omega⟩,fun y hy=>by cases hy⟩;exact .own H1.next 0 [x] [{ pos:=0,esz:=1,vals:=[.int .i64 (x:Int)],ok:=true }] { pos:=0,esz:=1,vals:=[.int .i64 (x:Int)],ok:=true } (Obj.new (H:=H1) 1 _) rfl rfl rfl rfl rfl (by simp)
 | own g k l rs r h1 h2 h3 h4 h5 h6 h7=>
  have hg:=hw _ _ h1;have g1:H1.objs.get g=some (.rows rs true):=by rw[kn.old g hg];exact h1
  have hc0:Nat.beq (l.length+big) 0=false:=by rw[A1b];simp[big]
  have hce:A9w (l.length+big)=false:=by unfold A9w;rw[Nat.ble_eq_true_of_le (by omega)];rfl
  have hfl:=A96 l;have hcells:H1.cells (⟨g,0,some k⟩:Addr) (l.length*1)=some (flat (l.map natC)):=by
   rw[Arr.cells (s:=1) (vals:=flat (l.map natC)) ⟨rs,r,g1,h2,h3,h4,h6⟩ (by omega),List.drop_zero,Nat.mul_one,←hfl,List.take_length]
  have e:A5d 1 (some ⟨g,0,some k⟩) l.length (l.length+big) 1 [.int .i64 (x:Int)] H1=some (.slice (some ⟨g,0,some rs.length⟩) (l.length+1) (l.length+1+big),H1.put g (.rows (A6e (r.pos+0+l.length*1) (r.pos+0+l.length*1+1*1) rs.length r 0 rs++[{ pos:=r.pos+0,esz:=1,vals:=flat (l.map natC)++[.int .i64 (x:Int)],ok:=true }]) true)):=by
   unfold A5d;have hb1:Nat.beq 1 0=false:=rfl;have hfit:¬(l.length+1≤l.length):=by omega
   simp only[hb1,hc0,cond_false,A0o,A0c,hfit,decide_false,hcells,Option.bind_some,hce,g1,h2,h4,A1b,decide_true,Bool.not_true]
  have hget:=A1f H1 g g (.rows (A6e (r.pos+0+l.length*1) (r.pos+0+l.length*1+1*1) rs.length r 0 rs++[{ pos:=r.pos+0,esz:=1,vals:=flat (l.map natC)++[.int .i64 (x:Int)],ok:=true }]) true);rw[if_pos rfl]at hget;have hlt1:g<H1.next:=by omega
  refine⟨_,_,_,_,some g,rfl,e,?_,kn.chg.trans (Chg.put (X:=fun y=>some g=some y) kn.wf hlt1 rfl _),.inl rfl,fun y hy=>?_⟩
  ·have:=Stk.own (H:=H1.put g (.rows (A6e (r.pos+0+l.length*1) (r.pos+0+l.length*1+1*1) rs.length r 0 rs++[{ pos:=r.pos+0,esz:=1,vals:=flat (l.map natC)++[.int .i64 (x:Int)],ok:=true }]) true)) g rs.length (l++[x]) _ { pos:=r.pos+0,esz:=1,vals:=flat (l.map natC)++[.int .i64 (x:Int)],ok:=true } hget (by rw[List.getElem?_append_right (by rw[A9d];exact Nat.le_refl _),A9d];simp) rfl rfl (by show r.pos+0=0;omega) (by rw[List.map_append,A8o];rfl) (by simp)
   rw[List.length_append,List.length_singleton]at this;exact this
  ·have hyg:=Option.some.inj hy
   subst hyg;intro rs0 hrs0;rw[h1]at hrs0;injection hrs0 with hrs0;injection hrs0 with hrs0 _
   subst hrs0;refine⟨_,hget,fun j q hq hp hl=>?_⟩;have hj:=(List.getElem?_eq_some_iff.1 hq).1;rw[List.getElem?_append_left (by rw[A9d];exact hj),A7l,hq];have hcov:B0d q (r.pos+0+l.length*1) (r.pos+0+l.length*1+1*1)=false:=by
    unfold B0d;rw[h5,hp];have:Nat.blt (0+0+l.length*1) (0+q.vals.length)=false:=by
     rw[Bool.eq_false_iff];intro hb;have:=Nat.le_of_ble_eq_true hb;omega
    rw[this,Bool.and_false]
   rw[Option.map_some,if_neg (by omega),hcov];rfl
end
structure OutAt(H:AH)(base bO:Nat)(zo:Value)(oo wb:Option Nat)(out:List (List Nat)):Prop where
 cell:Arr H bO 0 1 [zo]
 ex:∃vals:List Value,Buf H 1 zo (vals.map fun x=>[x]) oo∧vals.length=out.length∧∀(j:Nat) v u,vals[j]?=some v→out[j]?=some u→∃o,Buf H 1 v (u.map natC) o∧∀y,o=some y→base≤y∧oo≠some y∧wb≠some y
 ob:∀y,oo=some y→base≤y∧wb≠some y
 lt:bO<base
theorem OutAt.chg{H H':AH}{base bO:Nat}{zo:Value}{oo wb:Option Nat}{out:List (List Nat)}{X:Nat→Prop}(h:OutAt H base bO zo oo wb out)(hw:Wf H)(hc:Chg X H H')(hx:∀y,X y→wb=some y)(hwb:∀y,wb=some y→base≤y):OutAt H' base bO zo oo wb out:=by
 obtain⟨vals,h1,h2,h3⟩:=h.ex;refine⟨h.cell.keep (hc.old bO (h.cell.lt hw) fun hX=>?_),⟨vals,h1.chg hw hc fun y hy hX=>(h.ob y hy).2 (hx y hX),h2,fun j v u hv hu=>?_⟩,h.ob,h.lt⟩
 ·have:=hwb bO (hx bO hX);have:=h.lt;omega
 ·obtain⟨o,h4,h5⟩:=h3 j v u hv hu
  exact⟨o,h4.chg hw hc fun y hy hX=>(h5 y hy).2.2 (hx y hX),h5⟩
theorem OutAt.kept{H H':AH}{base bO:Nat}{zo:Value}{oo wb:Option Nat}{out:List (List Nat)}(h:OutAt H base bO zo oo wb out)(hw:Wf H)(hk:Kept H H'):OutAt H' base bO zo oo wb out:=by
 obtain⟨vals,h1,h2,h3⟩:=h.ex;refine⟨h.cell.keep (hk.old bO (h.cell.lt hw)),⟨vals,h1.kept hw hk,h2,fun j v u hv hu=>?_⟩,h.ob,h.lt⟩;obtain⟨o,h4,h5⟩:=h3 j v u hv hu;exact⟨o,h4.kept hw hk,h5⟩
theorem OutAt.hand{H:AH}{base bO:Nat}{zo:Value}{oo wb wb':Option Nat}{out:List (List Nat)}(h:OutAt H base bO zo oo wb out)(hw:Wf H)(hx:∀y,wb'=some y→wb=some y∨H.next≤y):OutAt H base bO zo oo wb' out:=by
 obtain⟨vals,h1,h2,h3⟩:=h.ex;refine⟨h.cell,⟨vals,h1,h2,fun j v u hv hu=>?_⟩,fun y hy=>⟨(h.ob y hy).1,fun hy2=>?_⟩,h.lt⟩
 ·obtain⟨o,h4,h5⟩:=h3 j v u hv hu
  refine⟨o,h4,fun y hy=>⟨(h5 y hy).1,(h5 y hy).2.1,fun hy2=>?_⟩⟩;rcases hx y hy2 with h6|h6
  ·exact(h5 y hy).2.2 h6
  ·have:=h4.lt hw y hy;omega
 ·rcases hx y hy2 with h6|h6
  ·exact(h.ob y hy).2 h6
  ·have:=h1.lt hw y hy;omega
theorem Buf.cut{H:AH}{s:Nat}{v:Value}{l:List (List Value)}{b:Option Nat}(h:Buf H s v l b){k:Nat}(hk:k≤l.length):
  ∃v',(∀{P:Program} {t e:Nat} {H':AH},P.underlying t=some (.slice e)→A5b P e=some s→l≠[]→A7s P t H' v none (some (.int .i64 (k:Int))) none=some v')∧Buf H s v' (l.take k) b:=by
 cases h with
 | void a=>exact⟨.slice a 0 0,fun{P t e H'} hu hs hne=>absurd rfl hne,by rw[List.take_nil];exact .void a⟩
 | own g k2 cap l vals ha h0 h1 h2 h3 h4=>
  refine⟨.slice (some ⟨g,0,some k2⟩) k cap,fun{P t e H'} hu hs _=>?_,?_⟩
  ·show A7s P t H' _ none (some (.int .i64 (.ofNat k))) none=_
   unfold A7s;simp only[hu,hs,bound,Option.bind_some];have e1:Nat.ble 0 k=true:=by simp
   have e2:Nat.ble k (A5p cap)=true:=Nat.ble_eq_true_of_le (by omega);have e3:Nat.beq 0 0=true:=rfl;simp only[e1,e2,e3,Bool.or_true,Bool.true_or,Bool.and_self,cond_true,Nat.sub_zero]
  ·have hle:k*s≤l.length*s:=Nat.mul_le_mul_right s hk
   have htl:(l.take k).length=k:=by rw[List.length_take];omega
   have hfk:(flat (l.take k)).length=k*s:=by rw[flat_length fun y hy=>h4 y (List.mem_of_mem_take hy),htl]
   have:=Buf.own (H:=H) (s:=s) g k2 cap (l.take k) vals ha h0 h1 (by omega) (by
    have e:=congrArg (List.take (k*s)) h3;rw[List.take_take,Nat.min_eq_left hle]at e;rw[htl,e];have e2:flat l=flat (l.take k)++flat (l.drop k):=by rw[←A8o,List.take_append_drop]
    rw[e2,←hfk,List.take_left'];rfl) (fun y hy=>h4 y (List.mem_of_mem_take hy))
   rw[htl]at this;exact this
structure RowsB{α:Type}(f:α→List (List Value))(H:AH)(G:Nat→Prop)(z:Value)(oo:Option Nat)(out:List α):Prop where
 ob:∀y,oo=some y→G y
 ex:∃vals:List Value,Buf H 1 z (vals.map fun x=>[x]) oo∧vals.length=out.length∧∀(j:Nat) v u,vals[j]?=some v→out[j]?=some u→∃o,Buf H 1 v (f u) o∧∀y,o=some y→G y∧oo≠some y
section
variable {α:Type} {f:α→List (List Value)}
theorem RowsB.void(H:AH)(G:Nat→Prop):RowsB f H G (.slice none 0 0) none []:=⟨(fun y hy=>by cases hy),[],.void none,rfl,fun j v u hj=>by simp at hj⟩
theorem RowsB.kept{H H':AH}{G:Nat→Prop}{z:Value}{oo:Option Nat}{out:List α}(h:RowsB f H G z oo out)(hw:Wf H)(hk:Kept H H'):RowsB f H' G z oo out:=by
 obtain⟨vals,h1,h2,h3⟩:=h.ex;refine⟨h.ob,vals,h1.kept hw hk,h2,fun j v u hv hu=>?_⟩;obtain⟨o,h4,h5⟩:=h3 j v u hv hu;exact⟨o,h4.kept hw hk,h5⟩
theorem RowsB.push{H:AH}{G:Nat→Prop}{z v:Value}{oo o:Option Nat}{out:List α}{u:α}(h:RowsB f H G z oo out)(hw:Wf H)(hb:∀y,H.next≤y→G y)(hv:Buf H 1 v (f u) o)(ho:∀y,o=some y→G y∧oo≠some y):
  ∃a cap w' H3 oo',z=.slice a out.length cap∧A5d 1 a out.length cap 1 [v] (H.new 1 [v]).2=some (w',H3)∧RowsB f H3 G w' oo' (out++[u])∧Chg (fun y=>oo=some y) H H3∧∀y,oo'=some y→oo=some y∨H.next≤y:=by
 obtain⟨vals,h1,h2,h3⟩:=h.ex;obtain⟨a,cap,w',H3,oo',e1,e2,e3,e4,e5⟩:=h1.push hw (x:=[v]) rfl;rw[List.length_map,h2]at e1 e2;refine⟨a,cap,w',H3,oo',e1,e2,⟨fun y hy=>?_,vals++[v],by rw[List.map_append];exact e3,by simp[h2],fun j x q hj hq=>?_⟩,e4,e5⟩
 ·rcases e5 y hy with h4|h4
  ·exact h.ob y h4
  ·exact hb y h4
 ·have far : ∀ {z : Value} {m : List (List Value)} {o : Option Nat}, Buf H 1 z m o → (∀ y, o = some y → G y ∧ oo ≠ some y) → Buf H3 1 z m o ∧ ∀ y, o = some y → G y ∧ oo' ≠ some y := fun {z m o} hbz hx =>
    ⟨hbz.chg hw e4 fun y hy hX => (hx y hy).2 hX, fun y hy => ⟨(hx y hy).1, fun hy2 => by
      rcases e5 y hy2 with h4|h4
      · exact(hx y hy).2 h4
      · have := hbz.lt hw y hy;omega⟩⟩
  rcases Nat.lt_or_ge j vals.length with hj1|hj1
  · rw[List.getElem?_append_left hj1]at hj
    rw[List.getElem?_append_left (by rw[←h2];exact hj1)]at hq;obtain⟨o', k1, k2⟩ := h3 j x q hj hq;exact⟨o', far k1 k2⟩
  · rw[List.getElem?_append_right hj1]at hj
    rw[List.getElem?_append_right (by rw[←h2];exact hj1), ←h2]at hq;have hj0 : j-vals.length = 0 := by
      have := (List.getElem?_eq_some_iff.1 hj).1;simp at this;omega
    rw[hj0]at hj hq;have hvx : v = x := by simpa using hj
    have huq : u = q := by simpa using hq
    subst hvx huq;exact⟨o, far hv ho⟩
theorem RowsB.move{H H':AH}{G G':Nat→Prop}{z:Value}{oo:Option Nat}{out:List α}(h:RowsB f H G z oo out)(hw:Wf H)(hk:∀y,G y→y<H.next→H'.objs.get y=H.objs.get y)(hG:∀y,G y→y<H.next→G' y):RowsB f H' G' z oo out:=by
 obtain⟨vals,h1,h2,h3⟩:=h.ex;refine⟨fun y hy=>hG y (h.ob y hy) (h1.lt hw y hy),vals,h1.keep fun y hy=>hk y (h.ob y hy) (h1.lt hw y hy),h2,fun j v u hv hu=>?_⟩;obtain⟨o,h4,h5⟩:=h3 j v u hv hu;exact⟨o,h4.keep fun y hy=>hk y (h5 y hy).1 (h4.lt hw y hy),fun y hy=>⟨hG y (h5 y hy).1 (h4.lt hw y hy),(h5 y hy).2⟩⟩
theorem RowsB.read{H:AH}{G:Nat→Prop}{z:Value}{oo:Option Nat}{out:List α}(h:RowsB f H G z oo out):∃vals,JagR H z 1 (out.map f) vals:=by
 obtain⟨vals,h1,h2,h3⟩:=h.ex;refine⟨vals,h1.toSl,by rw[List.length_map,h2],fun i w r hw hr=>?_⟩;rw[List.getElem?_map]at hr;obtain⟨u,hu,rfl⟩:=Option.map_eq_some_iff.1 hr;obtain⟨o,h4,_⟩:=h3 i w u hw hu;exact h4.toSl
end
end Go.Proofs.Sh
