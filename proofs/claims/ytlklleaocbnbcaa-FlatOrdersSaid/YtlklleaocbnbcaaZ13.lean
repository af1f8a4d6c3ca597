import Derived.Test.YtlklleaocbnbcaaZ10
import Derived.Test.YtlklleaocbnbcaaZ12
namespace Go.Proofs.Ytlklleaocbnbcaa
set_option linter.unusedVariables false
open Go.RowKit Go.Sort
inductive DK where | sigs | places | outs | procs | starts | body
deriving DecidableEq
def dkt:DK→Nat
 | .sigs=>69
 | .places=>43
 | .outs=>3
 | .procs=>72
 | .starts=>95
 | .body=>81
def dks:DK→Nat
 | .sigs=>4
 | .places=>3
 | .outs=>1
 | .procs=>5
 | .starts=>2
 | .body=>16
structure DS where
 l:List Sg
 pl:List Int
 npl:Nat
 ol:List Int
 ps:List Pr
 pc:List Value
 sts:List (Nat × List Bool)
 stc:List Value
 body:SL
 bc:List Value
def DRof (S:DS) (V:DK→Value):DK→RowV
 | .sigs=>(V .sigs,S.l.length,sigCells S.l)
 | .places=>(V .places,S.npl,ints S.pl)
 | .outs=>(V .outs,S.ol.length,ints S.ol)
 | .procs=>(V .procs,S.ps.length,S.pc)
 | .starts=>(V .starts,S.sts.length,S.stc)
 | .body=>(V .body,S.body.len,S.bc)
def StG (A:Nat→Prop) (w:World):List (Nat × List Bool)→List Value→Prop
 | [],cs=>cs = []
 | s::r,cs=>∃ v cs',cs = [.int .i64 (s.1:Nat),v]++cs'∧ROA A w v 1 s.2.length (bools s.2)∧StG A w r cs'
theorem StG.turn {A A':Nat→Prop} {w w':World} (hA:∀ b,A b→b<w.heap.size→A' b∧w'.heap[b]? = w.heap[b]?):∀ {t:List (Nat × List Bool)} {cs:List Value},StG A w t cs→StG A' w' t cs
 | [],_,h=>h
 | s::r,_,⟨v,cs',h1,h2,h3⟩=>⟨v,cs',h1,h2.turn hA,h3.turn hA⟩
theorem StG.app {A:Nat→Prop} {w:World}:∀ {t s:List (Nat × List Bool)} {cs ds:List Value},StG A w t cs→StG A w s ds→StG A w (t++s) (cs++ds)
 | [],_,_,_,h,hs=>by have:_ = []:=h;subst this;exact hs
 | x::r,_,_,_,⟨v,cs',h1,h2,h3⟩,hs=>⟨v,cs'++_,by rw [h1,List.append_assoc],h2,h3.app hs⟩
theorem PG.app {kp k:Nat} {E} {A:Nat→Prop} {w:World}:∀ {t s:List Pr} {cs ds:List Value},PG kp k E A w t cs→PG kp k E A w s ds→PG kp k E A w (t++s) (cs++ds)
 | [],_,_,_,h,hs=>by have:_ = []:=h;subst this;exact hs
 | x::r,_,_,_,⟨bv,bc,cs',h1,h2,h3,h4⟩,hs=>⟨bv,bc,cs'++_,by rw [h1,List.append_assoc],h2,h3,h4.app hs⟩
abbrev Bx:=List (Nat × Nat × List Value)
def Av (bm:Nat) (w:World) (R:DK→RowV) (bs:Bx) (b:Nat):Prop:=w.heap.size≤b∧b≠bm∧(∀ x∈bs,x.1≠b)∧∀ k,(R k).1.ownBlock≠some b
structure MD (bm n:Nat) (w W:World) (R:DK→RowV) (S:DS) (bs:Bx) (ts:List (TL × List Value)) (rs:List (Value × Nat × Nat × List Value)):Prop where
 eqb:bm=w.heap.size
 maker:Mk bm W
 bel:Below w.heap.size w W
 mem:MemZ dkt dks w.heap.size bm W R
 blk:∀ x∈bs,Blk W x.1 x.2.1 x.2.2∧w.heap.size≤x.1∧x.1≠bm∧∀ k,(R k).1.ownBlock≠some x.1
 nd:(bs.map (·.1)).Nodup
 tr:∀ t∈ts,TR (Av bm w R bs) W t.1 t.2∧t.1.wf n
 rr:∀ r∈rs,ROA (Av bm w R bs) W r.1 r.2.1 r.2.2.1 r.2.2.2
 pg:PG 0 8 ER (Av bm w R bs) W S.ps S.pc
 sr:SR (Av bm w R bs) W S.body S.bc
 st:StG (Av bm w R bs) W S.sts S.stc
section
variable {bm n:Nat} {w W W':World} {R:DK→RowV} {S:DS} {bs:Bx} {ts:List (TL × List Value)} {rs:List (Value × Nat × Nat × List Value)}
theorem MD.ge (h:MD bm n w W R S bs ts rs):w.heap.size≤bm:=h.mem.hb
theorem MD.lts (h:MD bm n w W R S bs ts rs) (k:DK):∀ g,(R k).1.ownBlock=some g→w.heap.size≤g∧g<W.heap.size:=h.mem.lts k
theorem MD.step (h:MD bm n w W R S bs ts rs) (hm:Mk bm W') (hsz:W.heap.size≤W'.heap.size) (hbel:Below w.heap.size w W') (hold:∀ k,k<W.heap.size→k≠bm→W'.heap[k]? = W.heap[k]?):MD bm n w W' R S bs ts rs:=by
 have hA:∀ b,Av bm w R bs b→b<W.heap.size→Av bm w R bs b∧W'.heap[b]? = W.heap[b]? := λ b hb hlt=>⟨hb,hold b hlt hb.2.1⟩
 refine ⟨h.eqb,hm,hbel,h.mem.keep hsz λ k g hg=>hold g (h.mem.lts k g hg).2 (λ e=>h.mem.nb k (by rw [hg,e])),λ x hx=>⟨?_,(h.blk x hx).2⟩,h.nd,λ t ht=>⟨(h.tr t ht).1.turn ER.stay hA,(h.tr t ht).2⟩,λ r hr=>(h.rr r hr).turn hA,h.pg.turn ER.stay hA,h.sr.turn ER.stay hA,h.st.turn hA⟩
 have hb:=h.blk x hx
 unfold Blk at hb ⊢
 rw [hold x.1 (some_lt hb.1) hb.2.2.1];exact hb.1
theorem MD.call (h:MD bm n w W R S bs ts rs) (hm:Mk bm W') (hu:Upd (One bm) (One bm) W W'):MD bm n w W' R S bs ts rs :=
 h.step hm hu.size (h.bel.trans (hu.lowF (λ b hb=>by have e:b=bm:=hb;rw [e];exact h.ge) h.bel.size)) λ k hk hn=>hu.block k hk hn
theorem MD.below (h:MD bm n w W R S bs ts rs) (hb:Below W.heap.size W W'):MD bm n w W' R S bs ts rs:=h.call (h.maker.below hb) (Upd.below hb)
theorem MD.newA (h:MD bm n w W R S bs ts rs):∀ b,From W.heap.size b→Av bm w R bs b:=λ b hb=>by
 have hb':W.heap.size≤b:=hb
 refine ⟨Nat.le_trans h.bel.size hb,λ e => ?_,λ x hx e => ?_,λ k e => ?_⟩
 ·have:=h.maker.lt;omega
 ·have:=(h.blk x hx).1.lt;omega
 ·have:=(h.lts k b e).2;omega
theorem MD.lay (h:MD bm n w W R S bs ts rs) (t:Nat) (l:List Value):MD bm n w (W.alloc (.cells l.toArray t)) R S ((W.heap.size,t,l)::bs) ts rs:=by
 have h':=h.below (Below.new W (.cells l.toArray t))
 have hA:∀ b,Av bm w R bs b→b<W.heap.size→Av bm w R ((W.heap.size,t,l)::bs) b∧(W.alloc (.cells l.toArray t)).heap[b]? = W.heap[b]? := λ b hb hlt=>by
  refine ⟨⟨hb.1,hb.2.1,λ x hx => ?_,hb.2.2.2⟩,(Below.new W (.cells l.toArray t)).block b hlt⟩
  rcases List.mem_cons.1 hx with rfl | hx
  ·show W.heap.size≠b;omega
  ·exact hb.2.2.1 x hx
 refine ⟨h'.eqb,h'.maker,h'.bel,h'.mem,λ x hx => ?_,?_,λ x hx=>⟨(h.tr x hx).1.turn ER.stay hA,(h.tr x hx).2⟩,λ x hx=>(h.rr x hx).turn hA,h.pg.turn ER.stay hA,h.sr.turn ER.stay hA,h.st.turn hA⟩
 ·rcases List.mem_cons.1 hx with rfl | hx
  ·exact ⟨Blk.new t l,h.bel.size,λ e=>by have:=h.maker.lt;have e':W.heap.size=bm:=e;omega,λ k e=>by have:=(h.lts k _ e).2;exact absurd this (Nat.lt_irrefl _)⟩
  ·exact h'.blk x hx
 ·rw [List.map_cons,List.nodup_cons]
  refine ⟨λ hm => ?_,h.nd⟩
  obtain ⟨p,hp,e⟩:=List.mem_map.1 hm
  have:=(h.blk p hp).1.lt
  dsimp only at e;omega
theorem MD.at (h:MD bm n w W R S bs ts rs) (j:Nat) {b t:Nat} {l:List Value} (hj:bs[j]? = some (b,t,l)):Blk W b t l:=(h.blk _ (List.mem_of_getElem? hj)).1
theorem MD.t (h:MD bm n w W R S bs ts rs) (j:Nat) {t:TL} {cs:List Value} (hj:ts[j]? = some (t,cs)):TR (Av bm w R bs) W t cs∧t.wf n:=h.tr _ (List.mem_of_getElem? hj)
theorem MD.r (h:MD bm n w W R S bs ts rs) (j:Nat) {v:Value} {k m:Nat} {cs:List Value} (hj:rs[j]? = some (v,k,m,cs)):ROA (Av bm w R bs) W v k m cs:=h.rr _ (List.mem_of_getElem? hj)
theorem MD.tree (h:MD bm n w W R S bs ts rs) (hm:Mk bm W') (hu:Upd (One bm) (One bm) W W') {t:TL} {cs:List Value} (ht:TR (From W.heap.size) W' t cs) (hw:t.wf n):MD bm n w W' R S bs ((t,cs)::ts) rs:=by
 have h':=h.call hm hu
 refine ⟨h'.eqb,h'.maker,h'.bel,h'.mem,h'.blk,h'.nd,λ x hx => ?_,h'.rr,h'.pg,h'.sr,h'.st⟩
 rcases List.mem_cons.1 hx with rfl | hx
 ·exact ⟨ht.mono h.newA,hw⟩
 ·exact h'.tr x hx
theorem MD.idx (h:MD bm n w W R S bs ts rs) (hm:Mk bm W') (hu:Upd (One bm) (One bm) W W') {t:TL} {cs:List Value} {v:Value} (hr:ROA (From W.heap.size) W' v 8 t.len cs) (ht:TR (From W.heap.size) W' t cs) (hw:t.wf n):MD bm n w W' R S bs ((t,cs)::ts) ((v,8,t.len,cs)::rs):=by
 have h':=h.tree hm hu ht hw
 refine ⟨h'.eqb,h'.maker,h'.bel,h'.mem,h'.blk,h'.nd,h'.tr,λ x hx => ?_,h'.pg,h'.sr,h'.st⟩
 rcases List.mem_cons.1 hx with rfl | hx
 ·exact hr.mono h.newA
 ·exact h'.rr x hx
theorem MD.read (h:MD bm n w W R S bs ts rs) (hb:Below W.heap.size W W') {v:Value} {k m:Nat} {cs:List Value} (hr:ROA (From W.heap.size) W' v k m cs):MD bm n w W' R S bs ts ((v,k,m,cs)::rs):=by
 have h':=h.below hb
 refine ⟨h'.eqb,h'.maker,h'.bel,h'.mem,h'.blk,h'.nd,h'.tr,λ x hx => ?_,h'.pg,h'.sr,h'.st⟩
 rcases List.mem_cons.1 hx with rfl | hx
 ·exact hr.mono h.newA
 ·exact h'.rr x hx
theorem MD.set (h:MD bm n w W R S bs ts rs) (j:Nat) {b t:Nat} {l:List Value} (hj:bs[j]? = some (b,t,l)) (i:Nat) (u:Value):MD bm n w (W.setCell ⟨b,i,none⟩ u) R S (bs.set j (b,t,l.set i u)) ts rs:=by
 have hmem:(b,t,l)∈bs:=List.mem_of_getElem? hj
 have hjl:j<bs.length:=(List.getElem?_eq_some_iff.1 hj).1
 have hb:=h.blk (b,t,l) hmem
 have hu:Upd (One b) (One b) W (W.setCell ⟨b,i,none⟩ u):=upd_cell1 u
 have hmap:(bs.set j (b,t,l.set i u)).map (·.1)=bs.map (·.1):=by
  rw [List.map_set]
  apply List.ext_getElem?
  intro q
  rw [List.getElem?_set]
  by_cases e:j=q
  ·subst e;rw [if_pos rfl,List.length_map,if_pos hjl,List.getElem?_map,hj];rfl
  ·rw [if_neg e]
 have hin:∀ x,x∈bs.set j (b,t,l.set i u)→x=(b,t,l.set i u)∨(x∈bs∧x.1≠b):=λ x hx=>by
  obtain ⟨q,hq⟩:=List.mem_iff_getElem?.1 hx
  rw [List.getElem?_set] at hq
  by_cases e:j=q
  ·subst e
   rw [if_pos rfl,if_pos hjl] at hq
   exact .inl (Option.some.inj hq).symm
  ·rw [if_neg e] at hq
   refine .inr ⟨List.mem_of_getElem? hq,λ e2=>e ?_⟩
   exact nodup_at h.nd (x:=b) (by rw [List.getElem?_map,hj];rfl) (by rw [List.getElem?_map,hq,←e2];rfl)
 have hA:∀ k,Av bm w R bs k→k<W.heap.size→Av bm w R (bs.set j (b,t,l.set i u)) k∧(W.setCell ⟨b,i,none⟩ u).heap[k]? = W.heap[k]? := λ k hk hlt=>by
  have hne:b≠k:=hk.2.2.1 (b,t,l) hmem
  refine ⟨⟨hk.1,hk.2.1,λ x hx => ?_,hk.2.2.2⟩,hu.block k hlt (λ e=>hne (Eq.symm e))⟩
  rcases hin x hx with rfl | hx
  ·exact hne
  ·exact hk.2.2.1 x hx.1
 refine ⟨h.eqb,?_,h.bel.trans (hu.lowF (λ k hk=>by have e:k=b:=hk;rw [e];exact hb.2.1) h.bel.size),h.mem.keep (by simp) λ k g hg=>hu.block g (h.mem.lts k g hg).2 (λ e=>hb.2.2.2 k (by have e':g=b:=e;rw [←e',←hg])),λ x hx => ?_,by rw [hmap];exact h.nd,λ x hx=>⟨(h.tr x hx).1.turn ER.stay hA,(h.tr x hx).2⟩,λ x hx=>(h.rr x hx).turn hA,h.pg.turn ER.stay hA,h.sr.turn ER.stay hA,h.st.turn hA⟩
 ·obtain ⟨p,m,c,l',i',h1,h2,h3⟩:=h.maker.ex
  have hne:=hb.2.2.1
  refine ⟨p,m,c,l',i',hu.blk h1 (λ e=>hne (Eq.symm e)),?_,h3⟩
  exact h2.upd hu λ k hk hk2=>by
   have e1:k=b:=hk2
   have e2:=hb.2.1
   have e3:=h.eqb
   omega
 ·rcases hin x hx with rfl | hx
  ·exact ⟨hb.1.set i u,hb.2⟩
  ·exact ⟨(h.blk x hx.1).1.other _ (λ e=>hx.2 e),(h.blk x hx.1).2⟩
theorem MD.drop (h:MD bm n w W R S bs ts rs) (j i:Nat):MD bm n w W R S (bs.drop j) [] (rs.drop i):=by
 have hA:∀ b,Av bm w R bs b→Av bm w R (bs.drop j) b:=λ b hb=>⟨hb.1,hb.2.1,λ x hx=>hb.2.2.1 x (List.mem_of_mem_drop hx),hb.2.2.2⟩
 have hA':∀ b,Av bm w R bs b→b<W.heap.size→Av bm w R (bs.drop j) b∧W.heap[b]? = W.heap[b]? := λ b hb _=>⟨hA b hb,rfl⟩
 exact ⟨h.eqb,h.maker,h.bel,h.mem,λ x hx=>h.blk x (List.mem_of_mem_drop hx),by rw [List.map_drop];exact h.nd.sublist (List.drop_sublist _ _),λ t ht=>(by cases ht),λ r hr=>(h.rr r (List.mem_of_mem_drop hr)).mono hA,h.pg.turn ER.stay hA',h.sr.mono hA,h.st.turn hA'⟩
theorem MD.app (h:MD bm n w W R S bs ts rs) (k:DK) {N m g cap:Nat} {xs:List Value} (ha:App w.heap.size (dkt k) (dks k) W (R k).1 N m xs g cap W') :
  MD bm n w W' (updZ R k (.slice (some ⟨g,0,none⟩) (N+m) cap,N+m,xs)) S bs ts rs:=by
 have hlt:=h.lts k
 have hA:∀ b,Av bm w R bs b→b<W.heap.size→Av bm w (updZ R k (.slice (some ⟨g,0,none⟩) (N+m) cap,N+m,xs)) bs b∧W'.heap[b]? = W.heap[b]? := λ b hb hl=>by
  refine ⟨⟨hb.1,hb.2.1,hb.2.2.1,λ k' e => ?_⟩,ha.old hl (hb.2.2.2 k)⟩
  by_cases hk:k'=k
  ·subst hk
   rw [updZ_same] at e
   simp only [Value.ownBlock,Option.some.injEq] at e
   subst e
   rcases ha.at_ with e | e
   ·exact hb.2.2.2 _ e
   ·omega
  ·rw [updZ_other R _ hk] at e
   exact hb.2.2.2 k' e
 refine ⟨h.eqb,?_,?_,h.mem.appA k ha,λ x hx => ?_,h.nd,λ x hx=>⟨(h.tr x hx).1.turn ER.stay hA,(h.tr x hx).2⟩,λ x hx=>(h.rr x hx).turn hA,h.pg.turn ER.stay hA,h.sr.turn ER.stay hA,h.st.turn hA⟩
 ·obtain ⟨p,m',c,l',i',h1,h2,h3⟩:=h.maker.ex
  have hne:∀ q,q≤bm→q<W.heap.size→W'.heap[q]? = W.heap[q]? := λ q hq hl=>ha.old hl λ e=>by
   have h1:=(hlt q e).1
   have h2:=h.eqb
   have e':q=bm:=by omega
   exact h.mem.nb k (by rw [e,e'])
  refine ⟨p,m',c,l',i',?_,h2.turn λ q hq hl=>⟨hq,hne q (Nat.le_of_lt hq) hl⟩,h3⟩
  unfold Blk at h1 ⊢
  rw [hne bm (Nat.le_refl _) (some_lt h1)];exact h1
 ·exact ha.below h.bel h.bel.size λ q hq=>(hlt q hq).1
 ·obtain ⟨h1,h2,h3,h4⟩:=h.blk x hx
  refine ⟨?_,h2,h3,λ k' e => ?_⟩
  ·unfold Blk at h1 ⊢
   rw [ha.old (some_lt h1) (h4 k)];exact h1
  ·by_cases hk:k'=k
   ·subst hk
    rw [updZ_same] at e
    simp only [Value.ownBlock,Option.some.injEq] at e
    rcases ha.at_ with e2 | e2
    ·exact h4 _ (by rw [←e];exact e2)
    ·have:=h1.lt;omega
   ·rw [updZ_other R _ hk] at e
    exact h4 k' e
theorem MD.re (h:MD bm n w W R S bs ts rs) (l:List Sg) (pl:List Int) (npl:Nat) (ol:List Int):MD bm n w W R { S with l:=l,pl:=pl,npl:=npl,ol:=ol} bs ts rs :=
 ⟨h.eqb,h.maker,h.bel,h.mem,h.blk,h.nd,h.tr,h.rr,h.pg,h.sr,h.st⟩
theorem MD.body (h:MD bm n w W R S bs ts rs) {t:SL} {cs:List Value} (ht:SR (Av bm w R bs) W t cs):MD bm n w W R { S with body:=S.body.app t,bc:=S.bc++cs} bs ts rs :=
 ⟨h.eqb,h.maker,h.bel,h.mem,h.blk,h.nd,h.tr,h.rr,h.pg,SG.app h.sr ht,h.st⟩
theorem MD.start (h:MD bm n w W R S bs ts rs) (i:Nat) (bl:List Bool) {v:Value} (hv:ROA (Av bm w R bs) W v 1 bl.length (bools bl)):MD bm n w W R { S with sts:=S.sts ++ [(i,bl)],stc:=S.stc ++ [.int .i64 i,v]} bs ts rs :=
 ⟨h.eqb,h.maker,h.bel,h.mem,h.blk,h.nd,h.tr,h.rr,h.pg,h.sr,StG.app h.st ⟨v, [],rfl,hv,rfl⟩⟩
theorem av_none {k:DK}:∀ b,Av bm w R bs b→Av bm w (updZ R k (.slice none 0 0,0, [])) bs b:=λ b hb=>⟨hb.1,hb.2.1,hb.2.2.1,λ k' e=>by
 by_cases hk:k'=k
 ·subst hk;rw [updZ_same] at e;cases e
 ·rw [updZ_other R _ hk] at e;exact hb.2.2.2 k' e⟩
theorem MD.lose (h:MD bm n w W R S bs ts rs) (k:DK):MD bm n w W (updZ R k (.slice none 0 0,0, [])) S bs ts rs:=by
 have hA:∀ b,Av bm w R bs b→b<W.heap.size→Av bm w (updZ R k (.slice none 0 0,0, [])) bs b∧W.heap[b]? = W.heap[b]? := λ b hb _=>⟨av_none b hb,rfl⟩
 refine ⟨h.eqb,h.maker,h.bel,h.mem.put k (World.ownsRow_nil _ _ _ _) (Nat.le_refl _) (λ g hg=>(by cases hg)) (λ g _ _=>rfl),λ x hx => ?_,h.nd,λ x hx=>⟨(h.tr x hx).1.turn ER.stay hA,(h.tr x hx).2⟩,λ x hx=>(h.rr x hx).turn hA,h.pg.turn ER.stay hA,h.sr.turn ER.stay hA,h.st.turn hA⟩
 obtain ⟨h1,h2,h3,h4⟩:=h.blk x hx
 refine ⟨h1,h2,h3,λ k' e => ?_⟩
 by_cases hk:k'=k
 ·subst hk;rw [updZ_same] at e;cases e
 ·rw [updZ_other R _ hk] at e;exact h4 k' e
theorem MD.nobody (h:MD bm n w W R S bs ts rs):MD bm n w W (updZ R .body (.slice none 0 0,0, [])) { S with body := .nil,bc := []} bs ts rs:=by
 have h':=h.lose .body
 exact ⟨h'.eqb,h'.maker,h'.bel,h'.mem,h'.blk,h'.nd,h'.tr,h'.rr,h'.pg,rfl,h'.st⟩
theorem MD.rowA (h:MD bm n w W R S bs ts rs) (k:DK):ROA (Av bm w (updZ R k (.slice none 0 0,0, [])) bs) W (R k).1 (dks k) (R k).2.1 (R k).2.2:=by
 have ho:=h.mem.own k
 refine ⟨ho.1,?_⟩
 rcases ho.2 with ⟨e1,e2⟩ | ⟨g,cap,cur,hv,hb,hg,h1,h2,h3,h4⟩
 ·rw [e1,e2]
  refine ⟨_,_,rfl,Nat.le_refl _,λ j u hj => ?_⟩
  have:=ho.1
  rw [e2,Nat.zero_mul] at this
  rw [List.eq_nil_of_length_eq_zero this] at hj;simp at hj
 ·refine ⟨_,_,hv,h1,λ j u hj=>⟨g,0,rfl,⟨hb,λ e=>h.mem.nb k (by rw [hv,e];rfl),λ x hx e=>(h.blk x hx).2.2.2 k (by rw [hv,e];rfl),λ k' e => ?_⟩,?_⟩⟩
  ·by_cases hk:k'=k
   ·subst hk;rw [updZ_same] at e;cases e
   ·rw [updZ_other R _ hk] at e
    exact h.mem.ne k' k hk g e (by rw [hv];rfl)
  ·have:=ho.cells (g:=g) (by rw [hv];rfl) j u hj
   have hadd:(⟨g,0,none⟩:Addr).add j=⟨g,0+j,none⟩:=by unfold Addr.add;split <;> simp_all
   rwa [hadd] at this
theorem MD.row (h:MD bm n w W R S bs ts rs) (k:DK):ROA (λ b=>b≠bm) W (R k).1 (dks k) (R k).2.1 (R k).2.2:=(h.rowA k).mono λ b hb=>hb.2.1
theorem MD.rowB (h:MD bm n w W R S bs ts rs) (k:DK):ROA (λ b=>b<W.heap.size) W (R k).1 (dks k) (R k).2.1 (R k).2.2:=(h.rowA k).turn λ b _ hl=>⟨hl,rfl⟩
theorem MD.move (h:MD bm n w W R S bs ts rs) (kind p1 p2 p3:Nat) (hb:R .body=((R .body).1,S.body.len,S.bc)) :
  MD bm n w W (updZ R .body (.slice none 0 0,0, [])) { S with ps:=S.ps ++ [⟨kind,p1,p2,p3,S.body⟩],pc:=S.pc ++ [.int .i64 kind,.int .i64 p1,.int .i64 p2,.int .i64 p3,(R .body).1],body := .nil,bc := []} bs ts rs:=by
 have h':=h.nobody
 have hr:=h.rowA .body
 rw [show (R .body).2.1=S.body.len by rw [hb],show (R .body).2.2=S.bc by rw [hb]] at hr
 exact ⟨h'.eqb,h'.maker,h'.bel,h'.mem,h'.blk,h'.nd,h'.tr,h'.rr,PG.app h'.pg ⟨(R .body).1,S.bc, [],(List.append_nil _).symm,hr,h.sr.mono av_none,rfl⟩,rfl,h'.st⟩
theorem MD.bodyIs (h:MD bm n w W R S bs ts rs) (hm:Mk bm W') (hu:Upd (One bm) (One bm) W W') {t:SL} {v:Value} {cs:List Value} (hr:W'.ownsRow W.heap.size 81 16 v t.len cs) (hs:SR (λ b=>W.heap.size≤b∧v.ownBlock≠some b) W' t cs) :
  MD bm n w W' (updZ R .body (v,t.len,cs)) { S with body:=t,bc:=cs} bs ts rs:=by
 have h':=h.call hm hu
 have hv:∀ g,v.ownBlock=some g→W.heap.size≤g∧g<W'.heap.size:=own_lt' hr
 have hsz:=hu.size
 have hA:∀ b,Av bm w R bs b→b<W.heap.size→Av bm w (updZ R .body (v,t.len,cs)) bs b∧W'.heap[b]? = W.heap[b]? := λ b hb hl=>by
  refine ⟨⟨hb.1,hb.2.1,hb.2.2.1,λ k' e => ?_⟩,hu.block b hl hb.2.1⟩
  by_cases hk:k' = .body
  ·subst hk;rw [updZ_same] at e;have:=(hv b e).1;omega
  ·rw [updZ_other R _ hk] at e;exact hb.2.2.2 k' e
 have hb:Below w.heap.size w W':=h'.bel
 refine ⟨h'.eqb,h'.maker,h'.bel,⟨λ k' => ?_,λ k1 k2 h12 g hg => ?_,λ k' hk' => ?_,h'.mem.hb,h'.mem.lt⟩,λ x hx => ?_,h.nd,λ x hx=>⟨(h.tr x hx).1.turn ER.stay hA,(h.tr x hx).2⟩,λ x hx=>(h.rr x hx).turn hA,h.pg.turn ER.stay hA,hs.mono λ b hb=>⟨Nat.le_trans h.bel.size hb.1,?_,?_,?_⟩,h.st.turn hA⟩
 ·by_cases hk:k' = .body
  ·subst hk;rw [updZ_same]
   refine ⟨hr.1,hr.2.imp id ?_⟩
   rintro ⟨g,cap,cur,e1,e2,e3⟩
   exact ⟨g,cap,cur,e1,Nat.le_trans h.bel.size e2,e3⟩
  ·rw [updZ_other R _ hk];exact h'.mem.own k'
 ·by_cases h1:k1 = .body
  ·subst h1
   rw [updZ_same] at hg
   rw [updZ_other R _ (Ne.symm h12)]
   intro e
   have:=(hv g hg).1
   have:=(h.lts k2 g e).2
   omega
  ·rw [updZ_other R _ h1] at hg
   by_cases h2:k2 = .body
   ·subst h2
    rw [updZ_same]
    intro e
    have:=(hv g e).1
    have:=(h.lts k1 g hg).2
    omega
   ·rw [updZ_other R _ h2];exact h.mem.ne k1 k2 h12 g hg
 ·by_cases hk:k' = .body
  ·subst hk
   rw [updZ_same] at hk'
   have:=(hv bm hk').1
   have:=h.maker.lt
   omega
  ·rw [updZ_other R _ hk] at hk';exact h.mem.nb k' hk'
 ·obtain ⟨h1,h2,h3,h4⟩:=h'.blk x hx
  refine ⟨h1,h2,h3,λ k' e => ?_⟩
  by_cases hk:k' = .body
  ·subst hk;rw [updZ_same] at e
   have:=(hv x.1 e).1
   have:=(h.blk x hx).1.lt
   omega
  ·rw [updZ_other R _ hk] at e;exact h4 k' e
 ·intro e;have:=h.maker.lt;have:=hb.1;omega
 ·intro x hx e;have:=(h.blk x hx).1.lt;have:=hb.1;omega
 ·intro k' e
  by_cases hk:k' = .body
  ·subst hk;rw [updZ_same] at e;exact hb.2 e
  ·rw [updZ_other R _ hk] at e
   have:=(h.lts k' b e).2
   have:=hb.1
   omega
theorem MD.init (hk:Mk w.heap.size W) (hb:Below w.heap.size w W):MD w.heap.size n w W (λ _=>(.slice none 0 0,0, [])) ⟨[], [],0, [], [], [], [], [],.nil, []⟩ [] [] [] :=
 ⟨rfl,hk,hb,⟨λ k=>World.ownsRow_nil _ _ _ _,λ _ _ _ g hg=>(by cases hg),λ _ hg=>(by cases hg),Nat.le_refl _,hk.lt⟩,λ x hx=>(by cases hx),by simp,λ x hx=>(by cases hx),λ x hx=>(by cases hx),rfl,rfl,rfl⟩
end
end Go.Proofs.Ytlklleaocbnbcaa
