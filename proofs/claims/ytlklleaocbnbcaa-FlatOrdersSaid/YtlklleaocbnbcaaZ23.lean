import Derived.Test.YtlklleaocbnbcaaZ22
import Derived.Laws.Cover3
namespace Go.Proofs.Ytlklleaocbnbcaa
set_option linter.unusedVariables false
open Go.RowKit Go.Sort
structure AHd where
 sg:Value
 pl:Value
 inp:Value
 out:Value
 pr:Value
 ass:Value
 st:Value
 ro:Value
 rd:Value
 wr:Value
def AHd.cells (h:AHd) (p1 p2 p3 e:Int):List Value := [h.sg,h.pl,h.inp,h.out,h.pr,h.ass,h.st,h.ro,h.rd,h.wr,.int .i64 p1,.int .i64 p2,.int .i64 p3,.int .i64 e]
structure Ck (ab:Nat) (h:AHd) (w0:World) (e0:Int) (ls:Bx) (C:Prop) (W:World):Prop where
 an:∃ p1 p2 p3 e:Int,Blk W ab 103 (h.cells p1 p2 p3 e)∧(e=0↔e0=0∧C)
 up:Upd (One ab) (One ab) w0 W
 blk:∀ x∈ls,Blk W x.1 x.2.1 x.2.2∧w0.heap.size≤x.1
 lt:ab<w0.heap.size
section
variable {ab:Nat} {h:AHd} {w0 W W':World} {e0:Int} {ls:Bx} {C C':Prop}
theorem Ck.start {w:World} {p1 p2 p3 e:Int} (hb:Blk w ab 103 (h.cells p1 p2 p3 e)):Ck ab h w e [] True w :=
 ⟨⟨p1,p2,p3,e,hb,by simp⟩,Upd.refl _ _,λ x hx=>(by cases hx),hb.lt⟩
theorem Ck.below (hc:Ck ab h w0 e0 ls C W) (hb:Below W.heap.size W W'):Ck ab h w0 e0 ls C W':=by
 obtain ⟨p1,p2,p3,e,h1,h2⟩:=hc.an
 exact ⟨⟨p1,p2,p3,e,h1.next hb,h2⟩,hc.up.trans (Upd.below hb),λ x hx=>⟨(hc.blk x hx).1.next hb,(hc.blk x hx).2⟩,hc.lt⟩
theorem Ck.drew (hc:Ck ab h w0 e0 ls C W):Ck ab h w0 e0 ls C W.drew:=hc.below (Below.refl _ _).drew
theorem Ck.lay (hc:Ck ab h w0 e0 ls C W) (t:Nat) (c:List Value):Ck ab h w0 e0 ((W.heap.size,t,c)::ls) C (W.alloc (.cells c.toArray t)):=by
 have h':=hc.below (Below.new W (.cells c.toArray t))
 refine ⟨h'.an,h'.up,λ x hx => ?_,h'.lt⟩
 rcases List.mem_cons.1 hx with rfl | hx
 ·exact ⟨Blk.new _ _,hc.up.size⟩
 ·exact h'.blk x hx
theorem Ck.drop (hc:Ck ab h w0 e0 ls C W) (j:Nat):Ck ab h w0 e0 (ls.drop j) C W:=⟨hc.an,hc.up,λ x hx=>hc.blk x (List.mem_of_mem_drop hx),hc.lt⟩
theorem Ck.iff (hc:Ck ab h w0 e0 ls C W) (hi:C↔C'):Ck ab h w0 e0 ls C' W:=by
 rw [←propext hi];exact hc
theorem Ck.at (hc:Ck ab h w0 e0 ls C W) (j:Nat) {b t:Nat} {l:List Value} (hj:ls[j]? = some (b,t,l)):Blk W b t l:=(hc.blk _ (List.mem_of_getElem? hj)).1
theorem Ck.size (hc:Ck ab h w0 e0 ls C W):w0.heap.size≤W.heap.size:=hc.up.size
theorem Ck.old (hc:Ck ab h w0 e0 ls C W) {b:Nat} (hb:b<w0.heap.size) (hn:b≠ab):W.heap[b]? = w0.heap[b]? := hc.up.block b hb (λ e=>hn e)
theorem Ck.low (hc:Ck ab h w0 e0 ls C W) {base:Nat} (hb:base≤ab):Below base w0 W:=hc.up.lowF (λ b e=>by have e':b=ab:=e;omega) (by have:=hc.lt;omega)
theorem Ck.roa {A:Nat→Prop} {v:Value} {s n:Nat} {cs:List Value} (hc:Ck ab h w0 e0 ls C W) (hA:∀ b,A b→b≠ab) (hg:ROA A w0 v s n cs):ROA A W v s n cs:=hg.turn λ b hb hlt=>⟨hb,hc.old hlt (hA b hb)⟩
theorem Ck.cell (hc:Ck ab h w0 e0 ls C W) {i:Nat} {v:Value} (hi:∀ p1 p2 p3 e:Int,(h.cells p1 p2 p3 e)[i]? = some v):W.cell? ⟨ab,i,none⟩=some v:=by
 obtain ⟨p1,p2,p3,e,h1,_⟩:=hc.an
 exact h1.cell (hi _ _ _ _)
theorem Ck.ne (hc:Ck ab h w0 e0 ls C W) {x} (hx:x∈ls):x.1≠ab:=by have:=(hc.blk x hx).2;have:=hc.lt;omega
theorem Ck.trans {e1:Int} {C1:Prop} {ls':Bx} {W1:World} (hc:Ck ab h w0 e0 ls C W) (he:∀ {p1 p2 p3 e:Int},Blk W ab 103 (h.cells p1 p2 p3 e)→e1=e) (h1:Ck ab h W e1 ls' C1 W1):Ck ab h w0 e0 ls (C∧C1) W1:=by
 obtain ⟨p1,p2,p3,e,hb,hi⟩:=hc.an
 obtain ⟨q1,q2,q3,e',hb',hi'⟩:=h1.an
 have e2:=he hb
 subst e2
 refine ⟨⟨q1,q2,q3,e',hb',by rw [hi',hi];exact and_assoc⟩,hc.up.trans h1.up,λ x hx=>⟨?_,(hc.blk x hx).2⟩,hc.lt⟩
 have hk:=(hc.blk x hx).1
 have hn:=hc.ne hx
 unfold Blk at hk ⊢
 rw [h1.up.block _ (some_lt hk) (λ e=>hn e)]
 exact hk
end
def FailR (ab:Nat) (h:AHd) (w0:World) (e0:Int) (ls:Bx) (C:Prop) (e:Ending) (w':World):Prop:=e = .returned (.tuple #[])∧Ck ab h w0 e0 ls C w'
set_option maxRecDepth 100000 in
set_option maxHeartbeats 4000000 in
theorem fail_any {ab:Nat} {h:AHd} {w0 W:World} {e0:Int} {ls:Bx} {C:Prop} (hc:Ck ab h w0 e0 ls C W) (is:Bool) (q1 q2 q3 en:Int) (hen:en≠0) :
  Calls Try.prog 47 #[.pointer (some ⟨ab,0,none⟩),.bool is,.agg #[.int .i64 q1,.int .i64 q2,.int .i64 q3],.int .i64 en] W (FailR ab h w0 e0 ls (C∧is=false)):=by
 have hc1:=hc.below (Below.new W (.cells #[.int .i64 q1,.int .i64 q2,.int .i64 q3] 43))
 obtain ⟨p1,p2,p3,e,hb,hi⟩:=hc1.an
 have hx0:=Blk.new (w:=W) 43 [.int .i64 q1,.int .i64 q2,.int .i64 q3]
 have hne:W.heap.size≠ab:=by have:=hc.lt;have:=hc.size;omega
 have H:=Lib.hid (And.intro hc1 (And.intro hb (And.intro hi (And.intro hx0 (And.intro hen hne)))))
 have a13:=hb.cell (i:=13) rfl
 clear hc hc1 hb hi hx0 hen hne
 go_enter Try.func47,Try.ntmps47
 go_upto_region 1 with fail
 generalize W.alloc (.cells #[.int .i64 q1,.int .i64 q2,.int .i64 q3] 43)=w1 at *
 cases is with
 | false =>
  go_wp2_with fail
  go_end0
  exact ⟨rfl,H.out.1.iff (by simp)⟩
 | true =>
  obtain ⟨q,hq⟩:∃ q,(e == 0)=q:=⟨_,rfl⟩
  have HQ:=Lib.hid hq
  cases q with
  | false =>
   go_wp2_with fail
   go_end0
   refine ⟨rfl,⟨⟨p1,p2,p3,e,H.out.2.1,?_⟩,H.out.1.up,H.out.1.blk,H.out.1.lt⟩⟩
   have:e≠0:=by have:=HQ.out;simpa using this
   simp [this]
  | true =>
   have x0:=H.out.2.2.2.1.cell (i:=0) rfl
   have x1:=H.out.2.2.2.1.cell (i:=1) rfl
   have x2:=H.out.2.2.2.1.cell (i:=2) rfl
   have a10:=H.out.2.1.cell (i:=10) rfl
   have a11:=H.out.2.1.cell (i:=11) rfl
   have a12:=H.out.2.1.cell (i:=12) rfl
   have f10:=H.out.2.1.frz 10
   have f11:=H.out.2.1.frz 11
   have f12:=H.out.2.1.frz 12
   have f13:=H.out.2.1.frz 13
   go_wp2_with fail
   go_end0
   have hb2:=(((H.out.2.1.set 10 (.int .i64 q1)).set 11 (.int .i64 q2)).set 12 (.int .i64 q3)).set 13 (.int .i64 en)
   refine ⟨rfl,⟨⟨q1,q2,q3,en,hb2,?_⟩,?_,λ x hx => ?_,H.out.1.lt⟩⟩
   ·have:=H.out.2.2.2.2.1
    simp [this]
   ·refine ⟨H.out.1.up.os,H.out.1.up.tape,H.out.1.up.output,by simpa using H.out.1.up.size,λ k hk hn => ?_,H.out.1.up.sub⟩
    have hk':k≠ab:=λ e=>hn e
    rw [Below.heap_setCell _ _ _ _ hk',Below.heap_setCell _ _ _ _ hk',Below.heap_setCell _ _ _ _ hk',Below.heap_setCell _ _ _ _ hk']
    exact H.out.1.up.block k hk hn
   ·have hn:=H.out.1.ne hx
    exact ⟨((((H.out.1.blk x hx).1.other _ hn).other _ hn).other _ hn).other _ hn,(H.out.1.blk x hx).2⟩
def PlaceR (w:World) (e:Ending) (w':World):Prop:=∃ q1 q2 q3:Int,e = .returned (.agg #[.int .i64 q1,.int .i64 q2,.int .i64 q3])∧Below w.heap.size w w'
set_option maxRecDepth 100000 in
set_option maxHeartbeats 4000000 in
theorem place_any {ab:Nat} {W:World} {lp:Option Addr} {n lc:Nat} {pl:List Int} (hc:W.cell? ⟨ab,1,none⟩=some (.slice lp n lc)) (hp:RO W (.slice lp n lc) 3 n (ints pl)) (s:Nat) :
  Calls Try.prog 50 #[.pointer (some ⟨ab,0,none⟩),.int .i64 s] W (PlaceR W):=by
 have hb1:=Below.new W (.cells #[.int .i64 0,.int .i64 0,.int .i64 0] 43)
 have hx1:=Blk.new (w:=W) 43 [.int .i64 0,.int .i64 0,.int .i64 0]
 have a1:=ca hc (.cells #[.int .i64 0,.int .i64 0,.int .i64 0] 43)
 have HB:=Lib.hid (And.intro hb1 (And.intro hx1 (hp.below hb1)))
 clear hb1 hx1 hp hc
 go_enter Try.func50,Try.ntmps50
 go_upto_region 1 with fail
 obtain ⟨xb,hxb⟩:∃ b,W.heap.size=b:=⟨_,rfl⟩
 rw [hxb] at HB ⊢
 generalize W.alloc (.cells #[.int .i64 0,.int .i64 0,.int .i64 0] 43)=w1 at *
 have x0:=HB.out.2.1.cell (i:=0) rfl
 have x1:=HB.out.2.1.cell (i:=1) rfl
 have x2:=HB.out.2.1.cell (i:=2) rfl
 have f0:=HB.out.2.1.frz 0
 have f1:=HB.out.2.1.frz 1
 have f2:=HB.out.2.1.frz 2
 have HX:=Lib.hid hxb
 clear hxb
 by_cases hs:s<n
 ·have hl:=HB.out.2.2.1
  have hlen:pl.length=n*3:=by simpa [ints] using hl
  have hat:∀ j,j<3→(ints pl)[s*3+j]? = some (.int .i64 (pl.getD (s*3+j) 0)):=λ j hj=>by
   unfold ints
   rw [List.getElem?_map,List.getD,List.getElem?_eq_getElem (by omega)];rfl
  obtain ⟨b,o,rfl⟩:=HB.out.2.2.sl (hat 0 (by omega))
  have c0:=HB.out.2.2.cell (hat 0 (by omega))
  have c1:=HB.out.2.2.cell (hat 1 (by omega))
  have c2:=HB.out.2.2.cell (hat 2 (by omega))
  rw [Nat.add_zero] at c0
  rw [←Nat.add_assoc] at c1 c2
  generalize pl.getD (s*3+0) 0=y0 at *
  generalize pl.getD (s*3+1) 0=y1 at *
  generalize pl.getD (s*3+2) 0=y2 at *
  have hs1:(s:Int)<(n:Int):=by omega
  have hs0:(0:Int)≤(s:Int):=by omega
  clear hl hlen hat hs
  go_wp2_with fail
  have hb2:=(((HB.out.2.1.set 0 (.int .i64 y0)).set 1 (.int .i64 y1)).set 2 (.int .i64 y2))
  have e0:=hb2.cell (i:=0) rfl
  have e1:=hb2.cell (i:=1) rfl
  have e2:=hb2.cell (i:=2) rfl
  refine bodyPost_ret (v := .agg #[.int .i64 y0,.int .i64 y1,.int .i64 y2]) (by simp [results,Try.results50,go_sem,e0,e1,e2]) rfl ⟨_,_,_,rfl,?_⟩
  rw [HX.out]
  exact ((HB.out.1.setCell (Nat.le_refl _) _).setCell (Nat.le_refl _) _).setCell (Nat.le_refl _) _
 ·have hs1:¬(s:Int)<(n:Int):=by omega
  clear hs
  go_wp2_with fail
  have hb2:=(((HB.out.2.1.set 0 (.int .i64 0)).set 1 (.int .i64 0)).set 2 (.int .i64 0))
  have e0:=hb2.cell (i:=0) rfl
  have e1:=hb2.cell (i:=1) rfl
  have e2:=hb2.cell (i:=2) rfl
  refine bodyPost_ret (v := .agg #[.int .i64 0,.int .i64 0,.int .i64 0]) (by simp [results,Try.results50,go_sem,e0,e1,e2]) rfl ⟨_,_,_,rfl,?_⟩
  rw [HX.out]
  exact ((HB.out.1.setCell (Nat.le_refl _) _).setCell (Nat.le_refl _) _).setCell (Nat.le_refl _) _
structure AX where
 sp:Option Addr
 sc:Nat
 lp:Option Addr
 ln:Nat
 lc:Nat
 ip:Option Addr
 ic:Nat
 op:Option Addr
 on:Nat
 oc:Nat
 pp:Option Addr
 cp:Nat
 qp:Option Addr
 qn:Nat
 qc:Nat
 tp:Option Addr
 tc:Nat
 dp:Option Addr
 dc:Nat
 wp:Option Addr
 wc:Nat
abbrev AX.h (x:AX) (N ni np nt:Nat) (ro:Value):AHd:=⟨.slice x.sp N x.sc,.slice x.lp x.ln x.lc,.slice x.ip ni x.ic,.slice x.op x.on x.oc,.slice x.pp np x.cp,.slice x.qp x.qn x.qc,.slice x.tp nt x.tc,ro,.slice x.dp np x.dc,.slice x.wp np x.wc⟩
structure DD (base:Nat) (w:World) (x:AX) (l:List Sg) (ps:List Pr) (il:List Int) (sts:List (Nat × List Bool)):Prop where
 sg:SgsM base w x.sp x.sc l
 ip:ROA (λ k=>k<base) w (.slice x.ip il.length x.ic) 1 il.length (ints il)
 nl:il.length≤1000
 pr:∃ pc,ROA (λ k=>k<base) w (.slice x.pp ps.length x.cp) 5 ps.length pc∧PG 3 9 EF (λ k=>k<base) w ps pc
 pl:∃ plc:List Int,ROA (λ k=>k<base) w (.slice x.lp x.ln x.lc) 3 x.ln (ints plc)
 st:∃ stc,ROA (λ k=>k<base) w (.slice x.tp sts.length x.tc) 3 sts.length stc∧StF sts stc
 wf:∀ q∈ps,q.body.wf l.length∧q.body.len≤1000000
 np:ps.length≤1000
 nt:sts.length≤1000
section
variable {base:Nat} {w w':World} {x:AX} {l:List Sg} {ps:List Pr} {il:List Int} {sts:List (Nat × List Bool)}
theorem DD.low (h:DD base w x l ps il sts) (hb:Below base w w'):DD base w' x l ps il sts:=by
 have ht:∀ k,k<base→k<w.heap.size→k<base∧w'.heap[k]? = w.heap[k]? := λ k hk _=>⟨hk,hb.block k hk⟩
 obtain ⟨pc,h1,h2⟩:=h.pr
 obtain ⟨plc,h3⟩:=h.pl
 obtain ⟨stc,h4,h5⟩:=h.st
 exact ⟨h.sg.low hb,h.ip.turn ht,h.nl,⟨pc,h1.turn ht,h2.turn EF.stay ht⟩,⟨plc,h3.turn ht⟩,⟨stc,h4.turn ht,h5⟩,h.wf,h.np,h.nt⟩
theorem DD.at (h:DD base w x l ps il sts) {i:Nat} {q:Pr} (hq:ps[i]? = some q) :
  ∃ b o pb cb bc,x.pp=some ⟨b,o,none⟩∧w.rangeAt b (o+i*5) [.int .i64 (q.kind:Nat),.int .i64 (q.p1:Nat),.int .i64 (q.p2:Nat),.int .i64 (q.p3:Nat),.slice pb q.body.len cb] ∧
   ROA (λ k=>k<base) w (.slice pb q.body.len cb) 20 q.body.len bc∧SF (λ k=>k<base) w q.body bc:=by
 obtain ⟨pc,h1,h2⟩:=h.pr
 obtain ⟨bv,bc,hat,hr,hs⟩:=pg_at h2 hq
 obtain ⟨pb,cb,rfl,_⟩:=hr.form
 have hro:=h1.ro
 obtain ⟨b,o,e⟩:=hro.sl (hat 0 (by omega))
 rw [e] at hro
 refine ⟨b,o,pb,cb,bc,e,λ j v hj => ?_,hr,hs⟩
 have hj5:j<5:=by have:=(List.getElem?_eq_some_iff.1 hj).1;simpa using this
 have:=hro.cell ((hat j hj5).trans hj)
 rwa [←Nat.add_assoc] at this
theorem DD.sig (h:DD base w x l ps il sts) {s:Nat} {y:Sg} (hy:l[s]? = some y) :
  ∃ b o,x.sp=some ⟨b,o,none⟩∧w.cell? ⟨b,o+s*4,none⟩=some (.string y.name)∧w.cell? ⟨b,o+s*4+1,none⟩=some (.int .i64 (y.w:Nat))∧w.cell? ⟨b,o+s*4+2,none⟩=some (.bool y.sg)∧w.cell? ⟨b,o+s*4+3,none⟩=some (.int .i64 (y.words:Nat)):=by
 have hro:=h.sg.ro
 obtain ⟨c0,c1,c2,c3⟩:=sigCells_at hy
 obtain ⟨b,o,e⟩:=hro.sl c0
 rw [e] at hro
 have:=hro.cell c0
 have d1:=hro.cell c1
 have d2:=hro.cell c2
 have d3:=hro.cell c3
 rw [←Nat.add_assoc] at d1 d2 d3
 exact ⟨b,o,e,this,d1,d2,d3⟩
end
def US (A:Nat→Prop) (w:World) (v:Value) (u:Us):Prop :=
 ∃ vs,ROA A w v 1 u.length vs∧∀ (k:Nat) (r:List Bool),u[k]? = some r→∃ rv,vs[k]? = some rv∧ROA A w rv 1 r.length (bools r)∧(r = []→rv = .slice none 0 0)
def UU (A:Nat→Prop) (w:World) (v:Value) (us:List Us):Prop :=
 ∃ vs,ROA A w v 1 us.length vs∧∀ (i:Nat) (u:Us),us[i]? = some u→∃ v,vs[i]? = some v∧US A w v u
section
variable {A A':Nat→Prop} {w w':World}
theorem US.turn {v:Value} {u:Us} (h:US A w v u) (hA:∀ b,A b→b<w.heap.size→A' b∧w'.heap[b]? = w.heap[b]?):US A' w' v u:=by
 obtain ⟨vs,h1,h2⟩:=h
 refine ⟨vs,h1.turn hA,λ k r hk => ?_⟩
 obtain ⟨rv,h3,h4,h5⟩:=h2 k r hk
 exact ⟨rv,h3,h4.turn hA,h5⟩
theorem UU.turn {v:Value} {us:List Us} (h:UU A w v us) (hA:∀ b,A b→b<w.heap.size→A' b∧w'.heap[b]? = w.heap[b]?):UU A' w' v us:=by
 obtain ⟨vs,h1,h2⟩:=h
 refine ⟨vs,h1.turn hA,λ k r hk => ?_⟩
 obtain ⟨rv,h3,h4⟩:=h2 k r hk
 exact ⟨rv,h3,h4.turn hA⟩
theorem US.form {v:Value} {u:Us} (h:US A w v u):∃ p c,v = .slice p u.length c:=by
 obtain ⟨vs,h1,_⟩:=h
 obtain ⟨p,c,e,_⟩:=h1.form
 exact ⟨p,c,e⟩
theorem ROA.inA {b o m c size n:Nat} {cs:List Value} (h:ROA A w (.slice (some ⟨b,o,none⟩) m c) size n cs) {j:Nat} {u:Value} (hu:cs[j]? = some u):A b:=by
 obtain ⟨_,p',c',e,_,h3⟩:=h
 obtain ⟨b',o',e',hA,_⟩:=h3 _ _ hu
 cases e;cases e';exact hA
theorem US.get {p:Option Addr} {n c:Nat} {u:Us} (h:US A w (.slice p n c) u) {k:Nat} {r:List Bool} (hk:u[k]? = some r) :
  ∃ b o pr cr,p=some ⟨b,o,none⟩∧A b∧w.cell? ⟨b,o+k,none⟩=some (.slice pr r.length cr)∧ROA A w (.slice pr r.length cr) 1 r.length (bools r)∧pr.isNone=r.isEmpty:=by
 obtain ⟨vs,h1,h2⟩:=h
 obtain ⟨rv,h3,h4,h5⟩:=h2 k r hk
 obtain ⟨pr,cr,rfl,_⟩:=h4.form
 obtain ⟨b,o,rfl⟩:=h1.sl h3
 refine ⟨b,o,pr,cr,rfl,h1.inA h3,h1.ro.cell h3,h4,?_⟩
 cases r with
 | nil=>have e:=h5 rfl;simp only [Value.slice.injEq] at e;rw [e.1];rfl
 | cons x r =>
  obtain ⟨b',o',rfl⟩:=h4.sl (j:=0) (u := .bool x) rfl
  rfl
theorem UU.get {p:Option Addr} {n c:Nat} {us:List Us} (h:UU A w (.slice p n c) us) {i:Nat} {u:Us} (hi:us[i]? = some u) :
  ∃ b o q m,p=some ⟨b,o,none⟩∧A b∧w.cell? ⟨b,o+i,none⟩=some (.slice q u.length m)∧US A w (.slice q u.length m) u:=by
 obtain ⟨vs,h1,h2⟩:=h
 obtain ⟨v,h3,h4⟩:=h2 i u hi
 obtain ⟨q,m,rfl⟩:=h4.form
 obtain ⟨b,o,rfl⟩:=h1.sl h3
 exact ⟨b,o,q,m,rfl,h1.inA h3,h1.ro.cell h3,h4⟩
theorem UsM.us {base g:Nat} {u:Us} {V:Nat→Value} (h:UsM base g w u V):US (λ b=>FV g V b) w (usV g u.length) u:=by
 refine ⟨(List.range u.length).map V,⟨by simp,_,_,rfl,Nat.le_refl _,λ j v hj=>⟨g,0,rfl,.inl rfl,by rw [Nat.zero_add];exact h.blk.cell hj⟩⟩,λ k r hk => ?_⟩
 have hlt:=(List.getElem?_eq_some_iff.1 hk).1
 have hr:u.getD k []=r:=by rw [List.getD,hk];rfl
 obtain ⟨p,c,hv⟩:=h.form k
 rw [hr] at hv
 refine ⟨V k,range_map_at V hlt,?_,λ e=>h.nil k (by rw [hr];exact e)⟩
 cases r with
 | nil=>rw [h.nil k hr];exact ROA.nil
 | cons y r =>
  have hc:(y::r).length≤c:=by
   have ho:=h.mem.own k
   rw [hv] at ho
   rcases ho.2 with ⟨e1,e2⟩ | ⟨g',cap,cur,hv',hb,hg,h1,h2,h3,h4⟩
   ·simp only [Value.slice.injEq] at e1;rw [e1.2.1];exact Nat.zero_le _
   ·simp only [Value.slice.injEq] at hv';rw [hv'.2.2,hv'.2.1];exact h1
  refine ⟨by simp [bools],p,c,hv,hc,λ j v hj => ?_⟩
  have hjl:j<(u.getD k []).length:=by rw [hr];have:=(List.getElem?_eq_some_iff.1 hj).1;simpa [bools] using this
  obtain ⟨b,c',hv2,hcell,_,_,_⟩:=h.at hjl
  rw [hr,hv] at hv2
  simp only [Value.slice.injEq] at hv2
  refine ⟨b,0,hv2.1,.inr ⟨k,by rw [hv,hv2.1];rfl⟩,?_⟩
  rw [Nat.zero_add,hcell]
  have:=bools_at _ j hjl
  rw [hr] at this
  rw [hr,←hj,this]
end
structure UD (A:Nat→Prop) (w:World) (x:AX) (l:List Sg) (ps:List Pr):Prop where
 rd:UU A w (.slice x.dp ps.length x.dc) (ps.map λ q=>readsP (sizes l) q.body)
 wr:UU A w (.slice x.wp ps.length x.wc) (ps.map λ q=>writesP (sizes l) kAll q.body)
theorem UD.turn {A A':Nat→Prop} {w w':World} {x:AX} {l:List Sg} {ps:List Pr} (h:UD A w x l ps) (hA:∀ b,A b→b<w.heap.size→A' b∧w'.heap[b]? = w.heap[b]?):UD A' w' x l ps:=⟨h.rd.turn hA,h.wr.turn hA⟩
theorem UD.atR {A:Nat→Prop} {w:World} {x:AX} {l:List Sg} {ps:List Pr} (h:UD A w x l ps) {i:Nat} {q:Pr} (hq:ps[i]? = some q) :
  ∃ b o p m,x.dp=some ⟨b,o,none⟩∧A b∧w.cell? ⟨b,o+i,none⟩=some (.slice p l.length m)∧US A w (.slice p l.length m) (readsP (sizes l) q.body):=by
 have:=h.rd.get (i:=i) (u:=readsP (sizes l) q.body) (by rw [List.getElem?_map,hq];rfl)
 rwa [readsP_len,sizes,List.length_map] at this
theorem UD.atW {A:Nat→Prop} {w:World} {x:AX} {l:List Sg} {ps:List Pr} (h:UD A w x l ps) {i:Nat} {q:Pr} (hq:ps[i]? = some q) :
  ∃ b o p m,x.wp=some ⟨b,o,none⟩∧A b∧w.cell? ⟨b,o+i,none⟩=some (.slice p l.length m)∧US A w (.slice p l.length m) (writesP (sizes l) kAll q.body):=by
 have:=h.wr.get (i:=i) (u:=writesP (sizes l) kAll q.body) (by rw [List.getElem?_map,hq];rfl)
 rwa [writesP_len,sizes,List.length_map] at this
theorem us_at {u:Us} {k n:Nat} (hl:u.length=n) (hk:k<n):u[k]? = some (u.getD k []):=by
 rw [List.getD,List.getElem?_eq_getElem (by omega)];rfl
theorem ne_nilB:∀ (w:World) (a:Option Addr) (n c:Nat),(binOp .neq 73 (.slice a n c) (.slice none 0 0)).run Try.prog w = .ok (.bool (!a.isNone)) w:=λ w a n c=>Go.run_neq_slice_nil (w:=w) _ _ a n c Try.underlying73
structure WS (P:Program) (ops:Array Oper) (w:World) (Q:Act→Prop) (l:List Oper) (a:Act):Prop where
 out:wpStill P ops w Q l a
theorem ws_step {P:Program} {ops:Array Oper} {w:World} {Q:Act→Prop} {a:Act} {o:Oper} {rest:List Oper}
  (h:∀ K:Act→Prop,(∀ a,WS P ops w Q rest a→K a)→if Region.wanted o (yielded ops a.tmps) then o.still P a w K else K (a.put o.dst undef)):WS P ops w Q (o::rest) a :=
 ⟨wpStill_step λ K hK=>h K λ a ha=>hK a ha.out⟩
theorem ws_nil {P:Program} {ops:Array Oper} {w:World} {Q:Act→Prop} {a:Act} (h:Q a):WS P ops w Q [] a:=⟨wpStill_nil h⟩
end Go.Proofs.Ytlklleaocbnbcaa
