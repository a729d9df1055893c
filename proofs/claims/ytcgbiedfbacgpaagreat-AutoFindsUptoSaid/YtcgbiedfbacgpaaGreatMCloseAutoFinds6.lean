/- A part of the proof: GraphRead, GraphClosed. -/
import Derived.Test.YtcgbiedfbacgpaaGreatMCloseAutoFinds2
import Derived.Test.YtcgbiedfbacgpaaGreatMCloseAutoFinds4
import Derived.Test.YtcgbiedfbacgpaaGreatMCloseAutoFinds5
set_option linter.unusedVariables false
set_option linter.unusedSimpArgs false
/- Reading the graph of the program; maps of marks. -/
set_option maxHeartbeats 4000000
set_option maxRecDepth 20000
set_option linter.unusedSimpArgs false
set_option linter.unusedVariables false
namespace Go.Proofs.YtcgbiedfbacgpaaGreat
open Go Go.Proofs Go.Proofs.Sh
def natK (n:Nat):Value:=.int .i64 (n:Int)
theorem C1h (a:Nat):A0t Tryz.prog 3 (natK a)=true:=by
 unfold A0t natK
 simp only [plainKey,keyT,A7h,Tryz.underlying3]; rfl
theorem C1p (a b:Nat):eqT Tryz.prog A7h 3 (natK a) (natK b)=some (decide (a=b)):=by
 unfold natK
 show eqT Tryz.prog (19+1) _ _ _=_
 rw [eqT_int]
 congr 1
 exact decide_eq_decide.2 Int.ofNat_inj
def BMap (H:AH) (g:Nat) (D:List Nat):Prop:=MapIs H g natK (D.map fun t=>(t,.bool true))
theorem B6p (D:List Nat) (t:Nat):A7y (D.map fun t=>(t,Value.bool true)) t=if t∈D then some (.bool true) else none:=by
 unfold A7y
 by_cases h:t∈D
 ·rw [if_pos h]
  cases hf:(D.map fun t=>(t,Value.bool true)).find? fun p=>decide (t=p.1) with
  | none=>
   rw [List.find?_eq_none] at hf
   have:=hf (t,.bool true) (List.mem_map.2 ⟨t,h,rfl⟩)
   simp at this
  | some p=>
   have:=List.mem_of_find?_eq_some hf
   obtain ⟨u,_,rfl⟩:=List.mem_map.1 this
   rfl
 ·rw [if_neg h]
  have:(D.map fun t=>(t,Value.bool true)).find? (fun p=>decide (t=p.1))=none:=by
   rw [List.find?_eq_none]
   rintro p hp
   obtain ⟨u,hu,rfl⟩:=List.mem_map.1 hp
   simp only [decide_eq_true_eq]
   rintro rfl
   exact h hu
  rw [this]; rfl
theorem BMap.look {H:AH} {g:Nat} {D:List Nat} (h:BMap H g D) (t:Nat):A4u Tryz.prog 87 (.map (some g)) (.int .i64 (t:Int)) false H=some (.bool (decide (t∈D))):=by
 have:=MapIs.look (P:=Tryz.prog) (ok:=false) Tryz.underlying87 B9n C1h C1p h t
 rw [B6p] at this
 unfold natK at this
 rw [this]
 by_cases hd:t∈D <;> simp [hd]
theorem BMap.add {H:AH} {g:Nat} {D:List Nat} (h:BMap H g D) (hw:Wf H) {t:Nat} (ht:t∉D):∃ H',A8k Tryz.prog 87 (.map (some g)) (.int .i64 (t:Int)) (.bool true) H=some H'∧BMap H' g (D++[t])∧Chg (fun y=>y=g) H H'∧H'.next=H.next:=by
 obtain ⟨H',h1,h2,h3,h4⟩:=MapIs.add (P:=Tryz.prog) Tryz.underlying87 C1h C1p h hw (a:=t) (by rw [B6p,if_neg ht]) (.bool true)
 exact ⟨H',h1,by unfold BMap; rw [List.map_append]; exact h2,h3,h4⟩
theorem pushSet {base:Nat} {H':AH} {z:Value} {os ob:Option Nat} {l:List Nat} (t:Nat) (hb:base≤H'.next) (hw:Wf H') (ho:∀ y,os=some y→y < H'.next) (hl:LB H' base os z l ob) (hn:l.length≤1073741823):
  ∃ a cap w' H4 ob', z = .slice a l.length cap ∧ A5a Tryz.prog 114 1 [(0, .int .i64 (t : Int))] H' = some (.slice (some ⟨H'.next, 0, some 0⟩) 1 1, (H'.new 1 [.int .i64 (t : Int)]).2) ∧
      A4a Tryz.prog .append [114, 114] [.slice a l.length cap, .slice (some ⟨H'.next, 0, some 0⟩) 1 1] (H'.new 1 [.int .i64 (t : Int)]).2 = some (w', H4) ∧
      LB H4 base os w' (l ++ [t]) ob' ∧ Chg (fun y => ob = some y) H' H4 ∧ ∀ y, ob' = some y → ob = some y ∨ H'.next ≤ y := by
 obtain ⟨a,cap,w',H4,ob',e1,e2,e3,e4,e5⟩:=hl.bf.push hw (x:=natC t) rfl
 rw [List.length_map] at e1 e2
 have ha:=app1_114 (H:=H') (base:=a) (len:=l.length) (cap:=cap) (x:=natC t) rfl hn
 rw [e2] at ha
 refine ⟨a,cap,w',H4,ob',e1,C7l (H:=H') (x:=.int .i64 (t:Int)) rfl rfl,ha,⟨by rw [List.map_append]; exact e3,fun y hy=>?_⟩,e4,e5⟩
 rcases e5 y hy with h1 | h1
 ·exact hl.fr y h1
 ·exact ⟨by omega,fun h2=>by have:=ho y h2; omega⟩
theorem pushNat2 {base:Nat} {H':AH} {z:Value} {os ob:Option Nat} {l:List Nat} (t:Nat) (hb:base≤H'.next) (hw:Wf H') (ho:∀ y,os=some y→y < H'.next) (hl:LB H' base os z l ob) (hn:l.length≤1073741823):
  ∃ a cap w' H4 ob', z = .slice a l.length cap ∧ A5a Tryz.prog 69 1 [(0, .int .i64 (t : Int))] H' = some (.slice (some ⟨H'.next, 0, some 0⟩) 1 1, (H'.new 1 [.int .i64 (t : Int)]).2) ∧
      A4a Tryz.prog .append [69, 69] [.slice a l.length cap, .slice (some ⟨H'.next, 0, some 0⟩) 1 1] (H'.new 1 [.int .i64 (t : Int)]).2 = some (w', H4) ∧
      LB H4 base os w' (l ++ [t]) ob' ∧ Chg (fun y => ob = some y) H' H4 ∧ ∀ y, ob' = some y → ob = some y ∨ H'.next ≤ y := by
 obtain ⟨a,cap,w',H4,ob',e1,e2,e3,e4,e5⟩:=hl.bf.push hw (x:=natC t) rfl
 rw [List.length_map] at e1 e2
 have ha:=A48 (H:=H') (base:=a) (len:=l.length) (cap:=cap) (x:=natC t) rfl hn
 rw [e2] at ha
 refine ⟨a,cap,w',H4,ob',e1,A8o (H:=H') (x:=.int .i64 (t:Int)) rfl rfl,ha,⟨by rw [List.map_append]; exact e3,fun y hy=>?_⟩,e4,e5⟩
 rcases e5 y hy with h1 | h1
 ·exact hl.fr y h1
 ·exact ⟨by omega,fun h2=>by have:=ho y h2; omega⟩
theorem B5a {H:AH}:anew Tryz.prog 95 H (.agg #[.int .i64 0,.int .i64 0,.int .i64 0,.int .i64 0])=some (.pointer (some ⟨H.next,0,some 0⟩),(H.new 4 [.int .i64 0,.int .i64 0,.int .i64 0,.int .i64 0]).2):=A6r (vs:=[.int .i64 0,.int .i64 0,.int .i64 0,.int .i64 0]) A13 rfl rfl
theorem A6y {H:AH} {e:Nat×Int×Int×Int} {p:Addr}:A6e Tryz.prog 95 H (.agg (A2f e).toArray) (.pointer (some p))=H.write p (A2f e):=A0z A13 rfl rfl
theorem B2a {H:AH} {e:Nat×Int×Int×Int} {x0 x1 x2 x3:Value}:(H.new 4 [x0,x1,x2,x3]).2.write ⟨H.next,0,some 0⟩ (A2f e)=some (H.new 4 (A2f e)).2:=A5o rfl
theorem ge0 {H:AH} {e:Nat×Int×Int×Int}:(H.new 4 (A2f e)).2.cell ⟨H.next,0,some 0⟩=some (.int .i64 (e.1:Int)):=A1m _ _ _
theorem ge1 {H:AH} {e:Nat×Int×Int×Int}:(H.new 4 (A2f e)).2.cell ⟨H.next,1,some 0⟩=some (.int .i64 e.2.1):=A1m _ _ _
theorem ge2 {H:AH} {e:Nat×Int×Int×Int}:(H.new 4 (A2f e)).2.cell ⟨H.next,2,some 0⟩=some (.int .i64 e.2.2.1):=A1m _ _ _
theorem ge3 {H:AH} {e:Nat×Int×Int×Int}:(H.new 4 (A2f e)).2.cell ⟨H.next,3,some 0⟩=some (.int .i64 e.2.2.2):=A1m _ _ _
theorem geAll {H:AH} {e:Nat×Int×Int×Int}:(H.new 4 (A2f e)).2.cells ⟨H.next,0,some 0⟩ 4=some (A2f e):=(Sh.Obj.new (H:=H) 4 (A2f e)).cells (i:=0) (n:=4) (by simp [A2f])
theorem PG.row {H:AH} {g n rb:Nat} {E:List (List (Nat×Int×Int×Int))} {ends:List Int} {sv av ev cv:Value} {vals:List Value} {sigma:List ByteArray} {costs:List Int} (h:PG H g n rb E ends sv av ev cv vals sigma costs) {s:Nat} {r:List (Nat×Int×Int×Int)} (hr:E[s]?=some r):
  ∃ p w,A9a Tryz.prog 68 av (.int .i64 (s:Int))=some (.pointer (some p))∧H.cell p=some w∧Sl H w 4 (r.map A2f)∧∀ H',A4a Tryz.prog .len [92] [w] H'=some (.int .i64 (r.length:Int),H'):=by
 obtain ⟨ga,oa,ka,w,h1,h2,h3⟩:=h.gr.jag.at Tryz.underlying68 A39 (i:=s) (r:=r.map A2f) (by unfold A9i; rw [List.getElem?_map,hr]; rfl)
 exact ⟨_,w,h1,h2,h3,fun H'=>by rw [h3.len Tryz.underlying92,List.length_map]⟩
theorem PG.edge {H:AH} {w:Value} {r:List (Nat×Int×Int×Int)} (h:Sl H w 4 (r.map A2f)) {q:Nat} (hq:q < r.length):
  ∃ p,A9a Tryz.prog 92 w (.int .i64 (q:Int))=some (.pointer (some p))∧H.cells p 4=some (A2f r[q]):=by
 obtain ⟨g',o',k',h1,h2,_⟩:=h.at Tryz.underlying92 A13 (i:=q) (x:=A2f r[q]) (by simp [hq]) .i64
 exact ⟨_,h1,h2⟩
end Go.Proofs.YtcgbiedfbacgpaaGreat
/- (*graph.Graph).closed: what is reached from states without reading a symbol. -/
namespace Go.Proofs.YtcgbiedfbacgpaaGreat
open Go Go.Proofs Go.Proofs.Sh
theorem B6k {H:AH} {g n:Nat} {E:List (List (Nat×Int×Int×Int))} {ends:List Int} {sv av ev cv u:Value} {vals:List Value} {sigma:List ByteArray} {costs:List Int} {L:List Nat} (h:PG H g n 60000 E ends sv av ev cv vals sigma costs) (hL:Sl H u 1 (L.map natC)) (hlt:∀ t∈L,t < n) (hll:L.length≤500000000) (hw:Wf H):
  Sh.Call Tryz.prog (knows 7) 101 [.pointer (some ⟨g,0,some 0⟩),u] H (fun r H'=>SetOut H H' r n (Clo (A2c E fun k=>k < 0) fun s=>s∈L)):=by
 refine A2a rfl Tryz.func101 rfl (Nat.le_of_ble_eq_true rfl) ?_
 have hres:Tryz.f101.results.toList=[.tmp 4]:=rfl
 have k1:=Kept.push hw (.map [])
 have m1:BMap (H.push (.map [])).2 H.next []:=MapIs.new
 simp only [↓Sh.dn,sx,Nat.reduceEqDiff]
 have hn1:=h.n1
 have hn2:=h.n2
 obtain ⟨r1,H2,hd2,hk2,tb0,htb0,hft0⟩:=B9d (l:=L.map natC) (hL.grow (k1.grow hw)) (by rw [List.length_map]; omega) k1.wf
 refine ⟨_,_,hd2,?_⟩
 obtain ⟨G,hG⟩:∃ G,H.next=G:=⟨_,rfl⟩
 have hk02:=k1.trans hk2
 have m2:BMap H2 H.next []:=m1.keep (hk2.old _ (Nat.lt_succ_self _))
 have hl2:LB H2 H.next (some H.next) r1 L tb0:=⟨htb0,fun y hy=>by
  have:=hft0 y hy
  have:H.next < (H.push (.map [])).2.next:=Nat.lt_succ_self _
  exact ⟨by omega,fun e=>by have:=Option.some.inj e; omega⟩⟩
 refine A1b (m := n * 60000 + L.length) (fun m F H' => F.get 0 = some (.pointer (some ⟨g, 0, some 0⟩)) ∧ F.get 5 = some (.map (some H.next)) ∧ Kept H H' ∧ ∃ zo, F.get 6 = some zo ∧ ∃ zt, F.get 7 = some zt ∧ ∃ out todo ob tb, m = (n - out.length) * 60000 + todo.length ∧ BMap H' H.next out ∧ LB H' H.next (some H.next) zo out ob ∧ LB H' H.next (some H.next) zt todo tb ∧ (∀ y, ob = some y → tb ≠ some y) ∧
     out.Nodup ∧ (∀ t ∈ out, t < n) ∧ (∀ t ∈ todo, t < n) ∧ todo.length ≤ L.length + out.length * 60000 ∧ (∀ t ∈ L, t ∈ out ∨ t ∈ todo) ∧ (∀ t ∈ out, Clo (A2c E fun k => k < 0) (fun s => s ∈ L) t) ∧ (∀ t ∈ todo, Clo (A2c E fun k => k < 0) (fun s => s ∈ L) t) ∧ ∀ s ∈ out, ∀ t, A2c E (fun k => k < 0) s t → t ∈ out ∨ t ∈ todo)
   ⟨by simp only [sx, reduceCtorEq], by simp only [sx, Nat.reduceEqDiff], hk02, _, by simp only [sx, Nat.reduceEqDiff], r1, by simp only [sx], [], L, none, tb0, by simp, m2, ⟨.void none, fun y hy => by cases hy⟩, hl2, fun y hy => (by cases hy), List.nodup_nil, fun t ht => (by cases ht), hlt, by omega, fun t ht => .inr ht, fun t ht => (by cases ht), fun t ht => .base ht, fun s hs => by cases hs⟩ ?_
 rintro m F H' ⟨f0,f5,hk,zo,f6,zt,f7,out,todo,ob,tb,rfl,hB,hlo,hlt',hsep,hnd,hon,htn,htl,hLo,hco,hct,hcl⟩ k
 have hout:=A3n hnd hon
 have hlen:=hlt'.bf.toSl.len Tryz.underlying69 H'
 rw [List.length_map] at hlen
 rcases List.eq_nil_or_concat todo with h0 | ⟨td,s,h0⟩
 ·subst h0
  have h00:decide ((0:Int) < ((([]:List Nat).length:Nat):Int))=false:=rfl
  obtain ⟨rr,H3,hd3,l',hperm,hsrt,hb3,hc3⟩:=C1n (l:=out.map fun (x:Nat)=>(x:Int)) (by rw [C6f]; exact hlo.bf) (by rw [List.length_map]; omega) hk.wf
  simp only [↓Sh.dn,sx,Nat.reduceEqDiff,f6,f7,hlen,h00]
  refine ⟨_,_,hd3,?_⟩
  have hl':l'.map (fun x=>[Value.int .i64 x])=(l'.map Int.toNat).map natC:=by
   rw [List.map_map]
   refine List.map_congr_left fun x hx=>?_
   obtain ⟨y,_,rfl⟩:=List.mem_map.1 (hperm.mem_iff.1 hx)
   rfl
  rw [hl'] at hb3
  have hp2:(l'.map Int.toNat).Perm out:=by
   have:=hperm.map Int.toNat
   rw [List.map_map] at this
   have e:out.map (Int.toNat ∘ fun (x:Nat)=>(x:Int))=out:=by
    conv=>rhs; rw [← List.map_id out]
    exact List.map_congr_left fun x _=>rfl
   rw [e] at this; exact this
  simp only [sx,hres]
  refine ⟨hk.then (Nat.le_refl _) (hc3.weak fun y hy=>(hlo.fr y hy).1),l'.map Int.toNat,ob,hb3,fun y hy=>(hlo.fr y hy).1,hp2.nodup_iff.2 hnd,fun t ht=>hon t (hp2.mem_iff.1 ht),fun t=>?_⟩
  rw [hp2.mem_iff]
  exact Clo.iff (fun t ht=>(hLo t ht).resolve_right (by simp)) hco (fun s hs t ht=>(hcl s hs t ht).resolve_right (by simp)) t
 ·rw [List.concat_eq_append] at h0
  subst h0
  have hpos:decide ((0:Int) < (((td++[s]).length:Nat):Int))=true:=by simp
  have wl:IntKind.wrap .i64 ((((td++[s]).length:Nat):Int) - 1)=(td.length:Int):=by
   rw [List.length_append,List.length_singleton] at htl ⊢
   rw [wrap64 (by omega) (by omega)]; omega
  obtain ⟨p1,hia1,hc1⟩:=A9x Tryz.underlying69 A3c hlt'.bf.toSl (i:=td.length) (by simp)
  have hgs:(td++[s])[td.length]'(by simp)=s:=by simp
  rw [hgs] at hc1
  have hbp:Buf H' 1 zt (td.map natC++[natC s]) tb:=by have:=hlt'.bf; rwa [List.map_append] at this
  obtain ⟨zt2,hsl,hb2⟩:=hbp.pop
  have hsl2:=hsl (P:=Tryz.prog) (H':=H') Tryz.underlying69 A3c
  rw [List.length_map] at hsl2
  have hlt2:LB H' H.next (some H.next) zt2 td tb:=⟨hb2,hlt'.fr⟩
  have hlk:=hB.look s
  have hsn:s < n:=htn s (by simp)
  simp only [↓Sh.dn,sx,Nat.reduceEqDiff,f5,f7,hlen,hpos,wl,hia1,hc1,hsl2,hlk]
  have hts:=hct s (by simp)
  by_cases hs:s∈out
  ·simp only [↓Sh.dn,sx,Nat.reduceBEq,hs,decide_true]
   refine k ((n - out.length) * 60000+td.length) _ _ (by rw [List.length_append]; simp) ⟨by simp only [sx,reduceCtorEq,f0],by simp only [sx,Nat.reduceEqDiff,f5],hk,zo,by simp only [sx,Nat.reduceEqDiff,f6],zt2,by simp only [sx,Nat.reduceEqDiff],out,td,ob,tb,rfl,hB,hlo,hlt2,hsep,hnd,hon,fun t ht=>htn t (List.mem_append_left _ ht),by rw [List.length_append] at htl; omega,fun t ht=>?_,hco,fun t ht=>hct t (List.mem_append_left _ ht),fun x hx t ht=>?_⟩
   ·rcases hLo t ht with h1 | h1
    ·exact .inl h1
    ·rcases List.mem_append.1 h1 with h2 | h2
     ·exact .inr h2
     ·rw [List.mem_singleton.1 h2]; exact .inl hs
   ·rcases hcl x hx t ht with h1 | h1
    ·exact .inl h1
    ·rcases List.mem_append.1 h1 with h2 | h2
     ·exact .inr h2
     ·rw [List.mem_singleton.1 h2]; exact .inl hs
  ·have hol : out.length < n := by
     have := A3n (l := s :: out) (List.nodup_cons.2 ⟨hs, hnd⟩) (fun x hx => by
       rcases List.mem_cons.1 hx with rfl | hx
       · exact hsn
       · exact hon x hx)
     rw [List.length_cons] at this; omega
   obtain ⟨H3, e1, hB3, c3, n3⟩ := hB.add hk.wf hs
   have hlo3 := hlo.chg hk.wf c3 fun y hy => by rw [hy]
   have hlt3 := hlt2.chg hk.wf c3 fun y hy => by rw [hy]
   have hk3 : Kept H H3 := hk.then (Nat.le_refl _) (c3.weak fun y hy => by rw [hy]; exact Nat.le_refl _)
   have hGl : H.next < H3.next := by have := hB.lt hk.wf; rw [n3]; exact this
   obtain ⟨a, cap, w', H4, ob2, rfl, e2, e3, hlo4, c4, f4⟩ := pushSet s hk3.next hk3.wf (fun y hy => by rw [← Option.some.inj hy]; exact hGl) hlo3 (by omega)
   have hk4 : Kept H H4 := hk3.then (Nat.le_refl _) (c4.weak fun y hy => (hlo3.fr y hy).1)
   have hB4 : BMap H4 H.next (out ++ [s]) := hB3.keep (c4.old _ hGl fun hy => (hlo3.fr _ hy).2 rfl)
   have hlt4 : LB H4 H.next (some H.next) zt2 td tb := ⟨hlt3.bf.chg hk3.wf c4 fun y hy hy2 => hsep y hy2 hy, hlt3.fr⟩
   have hsep4 : ∀ y, ob2 = some y → tb ≠ some y := fun y hy hy2 => by
     rcases f4 y hy with h1 | h1
     · exact hsep y h1 hy2
     · have := hlt3.bf.lt hk3.wf y hy2; omega
   obtain ⟨r, hr⟩ : ∃ r, E[s]? = some r := ⟨E[s]'(by rw [h.le]; exact hsn), List.getElem?_eq_getElem _⟩
   obtain ⟨hrl, hrt⟩ := h.to s r hr
   obtain ⟨pr, wr, hiar, hcr, hsr, hlr⟩ := PG.row h hr
   have hn := h.gr.arr.cell 1
   have hpg : ∀ {H'}, Kept H H' → H'.cell ⟨g, 1, some 0⟩ = some av ∧ H'.cell pr = some wr ∧ Sl H' wr 4 (r.map A2f) := fun hk => ⟨A2b (hk.grow hw) hn, A2b (hk.grow hw) hcr, hsr.grow (hk.grow hw)⟩
   obtain ⟨q1, q2, q3⟩ := hpg hk4
   simp only [↓Sh.dn, sx, reduceCtorEq, Nat.reduceEqDiff, hs, decide_false, f0, f5, e1, f6, e2, e3, q1, hiar, q2, hlr]
   refine A9c r.length 45 (List.range' 45 20 ++ [7, 10]) (fun q F'' H'' => Kept H H'' ∧ ∃ zt', F''.get 7 = some zt' ∧ ∃ td' tb', BMap H'' H.next (out ++ [s]) ∧ LB H'' H.next (some H.next) w' (out ++ [s]) ob2 ∧ LB H'' H.next (some H.next) zt' td' tb' ∧ (∀ y, ob2 = some y → tb' ≠ some y) ∧ (∀ t ∈ td', t < n) ∧ td'.length ≤ td.length + q ∧ (∀ t ∈ td, t ∈ td') ∧ (∀ t ∈ td', Clo (A2c E fun k => k < 0) (fun s => s ∈ L) t) ∧ ∀ e ∈ r.take q, e.2.1 < 0 → e.1 ∈ out ++ [s] ∨ e.1 ∈ td') (by simp only [sx])
     ⟨hk4, zt2, by simp only [sx, Nat.reduceEqDiff], td, tb, hB4, hlo4, hlt4, hsep4, fun t ht => htn t (List.mem_append_left _ ht), by omega, fun t ht => ht, fun t ht => hct t (List.mem_append_left _ ht), fun e he => by simp at he⟩ ?_ ?_
   · rintro q F'' H'' hq hF'' f45 ⟨hk'', zt', f7', td', tb', hB', hlo', hlt'', hsep', htn', htl', hsub, hct', hed⟩ k2
     have g5 := hF'' 5 rfl
     have g43 := hF'' 43 rfl
     have g44 := hF'' 44 rfl
     simp only [sx, Nat.reduceEqDiff, f5] at g5 g43 g44
     obtain ⟨q1, q2, q3⟩ := hpg hk''
     obtain ⟨pe, hiae, hce⟩ := PG.edge q3 hq
     have hrq : r[q] ∈ r := List.getElem_mem hq
     have htake : r.take (q + 1) = r.take q ++ [r[q]] := by rw [List.take_add_one, List.getElem?_eq_getElem hq]; rfl
     generalize r[q] = e at hce hrq htake
     have kn := Kept.new hk''.wf 4 (A2f e)
     have hk3 := hk''.trans kn
     have hB5 : BMap (H''.new 4 (A2f e)).2 H.next (out ++ [s]) := hB'.keep (kn.old _ (hB'.lt hk''.wf))
     have hlo5 := hlo'.kept hk''.wf kn
     have hlt5 := hlt''.kept hk''.wf kn
     have hlk2 := hB5.look e.1
     simp only [↓Sh.dn, sx, Nat.reduceEqDiff, f45, g43, g44, hiae, hce, A1a, hq, decide_true, B5a, A6y, B2a, ge1]
     have hnext : ∀ {td2 : List Nat} {tb2 : Option Nat} {z2 : Value} {F2 : Fr} {H2 : AH}, Same (List.range' 45 20 ++ [7, 10]) F'' F2 → F2.get 7 = some z2 → F2.get 45 = some (.int .i64 ((q + 1 : Nat) : Int)) → Kept H H2 → BMap H2 H.next (out ++ [s]) → LB H2 H.next (some H.next) w' (out ++ [s]) ob2 → LB H2 H.next (some H.next) z2 td2 tb2 → (∀ y, ob2 = some y → tb2 ≠ some y) → (td2 = td' ∨ td2 = td' ++ [e.1] ∧ e.2.1 < 0) → (e.2.1 < 0 → e.1 ∈ out ++ [s] ∨ e.1 ∈ td2) →
         wp Tryz.prog (knows 7) _ _ F2 H2 := fun {td2 tb2 z2 F2 H2} a1 a2 a3 a4 a5 a6 a7 a8 a9 a10 => k2 F2 H2 a1 a3 ⟨a4, z2, a2, td2, tb2, a5, a6, a7, a8, fun t ht => by
           rcases a9 with h1 | ⟨h1, _⟩
           · rw [h1] at ht; exact htn' t ht
           · rw [h1] at ht
             rcases List.mem_append.1 ht with h2 | h2
             · exact htn' t h2
             · rw [List.mem_singleton.1 h2]; exact hrt e hrq, by
           rcases a9 with h1 | ⟨h1, _⟩
           · rw [h1]; omega
           · rw [h1, List.length_append, List.length_singleton]; omega, fun t ht => by
           rcases a9 with h1 | ⟨h1, _⟩
           · rw [h1]; exact hsub t ht
           · rw [h1]; exact List.mem_append_left _ (hsub t ht), fun t ht => by
           rcases a9 with h1 | ⟨h1, hneg⟩
           · rw [h1] at ht; exact hct' t ht
           · rw [h1] at ht
             rcases List.mem_append.1 ht with h2 | h2
             · exact hct' t h2
             · rw [List.mem_singleton.1 h2]; exact .step hts ⟨r, hr, e, hrq, rfl, hneg⟩, fun x hx hxn => by
           rw [htake] at hx
           rcases List.mem_append.1 hx with h2 | h2
           · rcases hed x h2 hxn with h3 | h3
             · exact .inl h3
             · right
               rcases a9 with h1 | ⟨h1, _⟩
               · rw [h1]; exact h3
               · rw [h1]; exact List.mem_append_left _ h3
           · rw [List.mem_singleton.1 h2] at hxn ⊢; exact a10 hxn⟩
     have hrl' : r.length ≤ 4611686018427387904 := Nat.le_trans hrl (by decide)
     by_cases hneg : e.2.1 < 0
     · by_cases hin : e.1 ∈ out ++ [s]
       · simp only [↓Sh.dn, sx, Nat.reduceEqDiff, hneg, decide_true, g5, ge0, hlk2, hin, f45, A3a hq hrl']
         exact hnext (by repeat (first | refine Same.put ?_ rfl | exact Same.rfl' _)) (by simp only [sx, Nat.reduceEqDiff, f7']) (by simp only [sx]) hk3 hB5 hlo5 hlt5 hsep' (.inl rfl) fun _ => .inl hin
       · have hG5 : H.next < (H''.new 4 (A2f e)).2.next := hB5.lt hk3.wf
         obtain ⟨a6, cap6, w6, H6, tb6, rfl, e4, e5, hlt6, c6, f6'⟩ := pushNat2 e.1 hk3.next hk3.wf (fun y hy => by rw [← Option.some.inj hy]; exact hG5) hlt5 (by rw [List.length_append] at htl; have := Nat.mul_le_mul_right 60000 (Nat.le_of_lt hol); omega)
         have hk6 : Kept H H6 := hk3.then (Nat.le_refl _) (c6.weak fun y hy => (hlt5.fr y hy).1)
         have hB6 : BMap H6 H.next (out ++ [s]) := hB5.keep (c6.old _ hG5 fun hy => (hlt5.fr _ hy).2 rfl)
         have hlo6 : LB H6 H.next (some H.next) w' (out ++ [s]) ob2 := ⟨hlo5.bf.chg hk3.wf c6 fun y hy hy2 => hsep' y hy hy2, hlo5.fr⟩
         have hsep6 : ∀ y, ob2 = some y → tb6 ≠ some y := fun y hy hy2 => by
           rcases f6' y hy2 with h1 | h1
           · exact hsep' y hy h1
           · have := hlo5.bf.lt hk3.wf y hy; omega
         simp only [↓Sh.dn, sx, Nat.reduceEqDiff, hneg, decide_true, g5, ge0, hlk2, hin, decide_false, f7', e4, e5, f45, A3a hq hrl']
         exact hnext (by repeat (first | refine Same.put ?_ rfl | exact Same.rfl' _)) (by simp only [sx, Nat.reduceEqDiff]) (by simp only [sx]) hk6 hB6 hlo6 hlt6 hsep6 (.inr ⟨rfl, hneg⟩) fun _ => .inr (List.mem_append_right _ List.mem_cons_self)
     · simp only [↓Sh.dn, sx, Nat.reduceEqDiff, hneg, decide_false, f45, A3a hq hrl']
       exact hnext (by repeat (first | refine Same.put ?_ rfl | exact Same.rfl' _)) (by simp only [sx, Nat.reduceEqDiff, f7']) (by simp only [sx]) hk3 hB5 hlo5 hlt5 hsep' (.inl rfl) fun h => absurd h hneg
   · rintro F'' H'' hF'' f45 ⟨hk'', zt', f7', td', tb', hB', hlo', hlt'', hsep', htn', htl', hsub, hct', hed⟩
     have g0 := hF'' 0 rfl
     have g5 := hF'' 5 rfl
     have g6 := hF'' 6 rfl
     have g43 := hF'' 43 rfl
     have g44 := hF'' 44 rfl
     simp only [sx, reduceCtorEq, Nat.reduceEqDiff, f0, f5] at g0 g5 g6 g43 g44
     rw [List.take_length] at hed
     simp only [↓Sh.dn, sx, Nat.reduceBEq, f45, g44, A1a, Nat.lt_irrefl, decide_false]
     have hol2 : (out ++ [s]).length = out.length + 1 := by simp
     refine k ((n - (out ++ [s]).length) * 60000 + td'.length) _ _ (by rw [hol2, List.length_append, List.length_singleton]; have : n - out.length = (n - (out.length + 1)) + 1 := by omega
                                                                       rw [this, Nat.add_mul]; omega) ⟨by simp only [sx, reduceCtorEq, g0], by simp only [sx, Nat.reduceEqDiff, g5], hk'', w', by simp only [sx, Nat.reduceEqDiff, g6], zt', by simp only [sx, Nat.reduceEqDiff, f7'], out ++ [s], td', ob2, tb', rfl, hB', hlo', hlt'', hsep', ?_, fun t ht => ?_, htn', ?_, fun t ht => ?_, fun t ht => ?_, hct', fun x hx t ht => ?_⟩
     · rw [List.nodup_append]
       refine ⟨hnd, by simp, fun a ha b hb => ?_⟩
       rw [List.mem_singleton] at hb
       rintro rfl
       exact hs (hb ▸ ha)
     · rcases List.mem_append.1 ht with h1 | h1
       · exact hon t h1
       · rw [List.mem_singleton.1 h1]; exact hsn
     · rw [hol2, Nat.add_mul]; rw [List.length_append] at htl; omega
     · rcases hLo t ht with h1 | h1
       · exact .inl (List.mem_append_left _ h1)
       · rcases List.mem_append.1 h1 with h2 | h2
         · exact .inr (hsub t h2)
         · exact .inl (List.mem_append_right _ h2)
     · rcases List.mem_append.1 ht with h1 | h1
       · exact hco t h1
       · rw [List.mem_singleton.1 h1]; exact hts
     · rcases List.mem_append.1 hx with h1 | h1
       · rcases hcl x h1 t ht with h2 | h2
         · exact .inl (List.mem_append_left _ h2)
         · rcases List.mem_append.1 h2 with h3 | h3
           · exact .inr (hsub t h3)
           · exact .inl (List.mem_append_right _ h3)
       · rw [List.mem_singleton.1 h1] at ht
         obtain ⟨r', hr2, e, he, he1, he2⟩ := ht
         rw [hr] at hr2
         rw [← Option.some.inj hr2] at he
         rw [← he1]
         exact hed e he he2
end Go.Proofs.YtcgbiedfbacgpaaGreat
