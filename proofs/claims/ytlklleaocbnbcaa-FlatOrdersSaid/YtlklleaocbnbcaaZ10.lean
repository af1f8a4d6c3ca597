import Derived.Test.YtlklleaocbnbcaaZ9
import Derived.Test.YtlklleaocbnbcaaZ3
namespace Go.Proofs.Ytlklleaocbnbcaa
set_option linter.unusedVariables false
open Go.RowKit
structure Des (B:Nat) (w:World) (l:List Sg) (ps:List Pr) (p:Option Addr) (c:Nat) (pi:Option Addr) (ni ci:Nat) (il:List Int) (pp:Option Addr) (cp:Nat) (pc:List Value):Prop where
 sg:SgsM B w p c l
 inn:ROA (λ k=>k<B) w (.slice pi ni ci) 1 ni (ints il)
 nl:ni≤1000
 pr:ROA (λ k=>k<B) w (.slice pp ps.length cp) 5 ps.length pc
 pg:PG 0 8 ER (λ k=>k<B) w ps pc
 wf:∀ q∈ps,q.body.wf l.length∧q.body.len≤1000000
 pl:ps.length≤1000
 sm:∀ x∈l,x.words≤1000∧x.w≤1000
theorem Des.low {B:Nat} {w w':World} {l ps p c pi ni ci il pp cp pc} (h:Des B w l ps p c pi ni ci il pp cp pc) (hb:Below B w w'):Des B w' l ps p c pi ni ci il pp cp pc :=
 ⟨h.sg.low hb,h.inn.turn λ k hk _=>⟨hk,hb.block k hk⟩,h.nl,h.pr.turn λ k hk _=>⟨hk,hb.block k hk⟩,h.pg.turn ER.stay λ k hk _=>⟨hk,hb.block k hk⟩,h.wf,h.pl,h.sm⟩
theorem Des.mono {B B':Nat} {w:World} {l ps p c pi ni ci il pp cp pc} (h:Des B w l ps p c pi ni ci il pp cp pc) (hb:B≤B'):Des B' w l ps p c pi ni ci il pp cp pc :=
 ⟨⟨h.sg.ra.mono λ k hk=>Nat.lt_of_lt_of_le hk hb,h.sg.pos,h.sg.le,h.sg.sz⟩,h.inn.mono λ k hk=>Nat.lt_of_lt_of_le hk hb,h.nl,h.pr.mono λ k hk=>Nat.lt_of_lt_of_le hk hb,h.pg.turn ER.stay λ k hk _=>⟨Nat.lt_of_lt_of_le hk hb,rfl⟩,h.wf,h.pl,h.sm⟩
theorem pg_at {kp k:Nat} {E} {A:Nat→Prop} {w:World}:∀ {ps:List Pr} {pc:List Value} (h:PG kp k E A w ps pc) {i:Nat} {q:Pr} (hq:ps[i]? = some q),
  ∃ bv bc,(∀ j,j<5→pc[i*5+j]? = [Value.int .i64 (q.kind:Nat),.int .i64 (q.p1:Nat),.int .i64 (q.p2:Nat),.int .i64 (q.p3:Nat),bv][j]?)∧ROA A w bv (k+kp+8) q.body.len bc∧SG kp k E A w q.body bc
 | [],_,_,i,q,hq=>by simp at hq
 | p::r,_,⟨bv,bc,cs',h1,h2,h3,h4⟩,0,q,hq=>by
  simp only [List.getElem?_cons_zero,Option.some.injEq] at hq
  subst hq
  refine ⟨bv,bc,λ j hj => ?_,h2,h3⟩
  rw [h1,Nat.zero_mul,Nat.zero_add,List.getElem?_append_left (by simpa using hj)]
 | p::r,_,⟨bv,bc,cs',h1,h2,h3,h4⟩,i+1,q,hq=>by
  obtain ⟨bv',bc',hat,hr,hs⟩:=pg_at h4 (i:=i) (q:=q) (by simpa using hq)
  refine ⟨bv',bc',λ j hj => ?_,hr,hs⟩
  rw [←hat j hj,h1,show (i+1)*5+j=i*5+j+5 by omega]
  rfl
def RoleR (w:World) (e:Ending) (w':World):Prop:=∃ r:Int,e = .returned (.int .i64 r)∧Below w.heap.size w w'
theorem writesP_len (sz:List Nat) (f:Nat→Bool) (b:SL):(writesP sz f b).length=sz.length:=by unfold writesP;rw [addsP_len,List.length_replicate]
theorem readsP_len (sz:List Nat) (b:SL):(readsP sz b).length=sz.length:=by unfold readsP;rw [addsP_len,List.length_replicate]
theorem Des.at {B:Nat} {w:World} {l ps p c pi ni ci il pp cp pc} (h:Des B w l ps p c pi ni ci il pp cp pc) {i:Nat} {q:Pr} (hq:ps[i]? = some q) :
  ∃ b o pb cb bc,pp=some ⟨b,o,none⟩∧b<B∧w.cell? ⟨b,o+i*5,none⟩=some (.int .i64 (q.kind:Nat))∧w.cell? ⟨b,o+i*5+1,none⟩=some (.int .i64 (q.p1:Nat))∧w.cell? ⟨b,o+i*5+2,none⟩=some (.int .i64 (q.p2:Nat))∧w.cell? ⟨b,o+i*5+3,none⟩=some (.int .i64 (q.p3:Nat))∧w.cell? ⟨b,o+i*5+4,none⟩=some (.slice pb q.body.len cb) ∧
   ROA (λ k=>k<B) w (.slice pb q.body.len cb) 16 q.body.len bc∧SR (λ k=>k<B) w q.body bc:=by
 obtain ⟨bv,bc,hat,hr,hs⟩:=pg_at h.pg hq
 obtain ⟨pb,cb,rfl,_⟩:=hr.form
 have hro:=h.pr.ro
 have h0:=hat 0 (by omega)
 obtain ⟨b,o,rfl⟩:=hro.sl h0
 have c0:=hro.cell h0
 have c1:=hro.cell (hat 1 (by omega))
 have c2:=hro.cell (hat 2 (by omega))
 have c3:=hro.cell (hat 3 (by omega))
 have c4:=hro.cell (hat 4 (by omega))
 rw [←Nat.add_assoc] at c1 c2 c3 c4
 rw [Nat.add_zero] at c0
 have hbB:b<B:=by
  obtain ⟨_,_,_,e,_,h3⟩:=h.pr
  obtain ⟨_,_,e',hA,_⟩:=h3 _ _ h0
  cases e;cases e';exact hA
 exact ⟨b,o,pb,cb,bc,rfl,hbB,c0,c1,c2,c3,c4,hr,hs⟩
theorem wr_call (a b:Nat) {B:Nat} {w:World} {p:Option Addr} {c:Nat} {l:List Sg} {body:SL} {pb:Option Addr} {cb:Nat} {bc:List Value} {v1 v2 v3 v4 v5 v6:Value} (hs:SgsM B w p c l) (hw:body.wf l.length) (hl:body.len≤1000000)
  (hr:ROA (λ k=>k<B) w (.slice pb body.len cb) 16 body.len bc) (hb:SR (λ k=>k<B) w body bc) {N:Nat} (hN:l.length=N) (W:World) (g b':Nat) (V:Nat→Value) (h1:w.heap.size≤b') (h2:UsM b' g W (List.replicate N []) V) (h3:Below w.heap.size w W) :
  Calls Try.prog 35 #[.agg #[.slice p N c,v1,v2,v3,v4,v5,v6],.agg #[usV g N],.slice pb body.len cb,.int .i64 a,.int .i64 b] W (AddR b' g N W V (writesP (sizes l) (fAB a b) body)):=by
 have hsN:(sizes l).length=N:=by rw [←hN];simp [sizes]
 have hs':SgsM b' W p c l:=⟨(hs.ra.turn λ k hk hk2=>⟨Nat.lt_of_lt_of_le hk2 h1,h3.block k hk2⟩),hs.pos,hs.le,hs.sz⟩
 have hwu:WU (sizes l) (List.replicate N []):=by rw [←hsN];exact WU.none _
 have:=(wr_step (a:=a) (b:=b) (base:=b') (p:=p) (c:=c) (l:=l) (v1:=v1) (v2:=v2) (v3:=v3) (v4:=v4) (v5:=v5) (v6:=v6) hw hl (wr_all hw)) g W (List.replicate N []) V pb cb bc h2 hwu hs' (hr.turn λ k hk hk2=>⟨Nat.lt_of_lt_of_le hk2 h1,h3.block k hk2⟩) (hb.turn ER.stay λ k hk hk2=>⟨Nat.lt_of_lt_of_le hk2 h1,h3.block k hk2⟩)
 rw [hN] at this
 have e:writesP (sizes l) (fAB a b) body=addsP (sizes l) (List.replicate N []) (writeAts (fAB a b) (flatS body)):=by unfold writesP;rw [hsN]
 rw [e]
 exact this
set_option maxRecDepth 100000 in
set_option maxHeartbeats 8000000 in
theorem role_any {B:Nat} {w:World} {l:List Sg} {ps:List Pr} {p:Option Addr} {c:Nat} {pi:Option Addr} {ni ci:Nat} {il:List Int} {pp:Option Addr} {cp:Nat} {pc:List Value} {v1 v3 v5 v6:Value} (hD:Des B w l ps p c pi ni ci il pp cp pc) (hB:B≤w.heap.size) (s:Nat) (hsl:s<l.length) :
  Calls Try.prog 18 #[.agg #[.slice p l.length c,v1,.slice pi ni ci,v3,.slice pp ps.length cp,v5,v6],.int .i64 s] w (RoleR w):=by
 obtain ⟨N,hN⟩:∃ N,l.length=N:=⟨_,rfl⟩
 obtain ⟨np,hnp⟩:∃ np,ps.length=np:=⟨_,rfl⟩
 obtain ⟨x,hx⟩:∃ x,l[s]? = some x:=⟨_,List.getElem?_eq_getElem hsl⟩
 have hx0:=Blk.new (w:=w) 31 [.slice p l.length c,v1,.slice pi ni ci,v3,.slice pp ps.length cp,v5,v6]
 have hb0:=Below.new w (.cells #[.slice p l.length c,v1,.slice pi ni ci,v3,.slice pp ps.length cp,v5,v6] 31)
 have hin:∀ W,Below w.heap.size w W→Calls Try.prog 37 #[.agg #[.slice p l.length c,v1,.slice pi ni ci,v3,.slice pp ps.length cp,v5,v6],.int .i64 s] W λ e w'=>∃ q,e = .returned (.bool q)∧Below W.heap.size W w':=λ W hb=>input_any ((hD.low (hb.mono hB)).inn) hD.nl s
 have HD:=Lib.hid (And.intro hD (And.intro hB (And.intro hN (And.intro hnp (And.intro hx hsl)))))
 rw [hN,hnp] at hx0 hb0 hin ⊢
 have HIn:=Lib.hid hin
 have HB:=Lib.hid (And.intro hx0 hb0)
 have hsN:(s:Int)<(N:Int):=by omega
 have hs0:(0:Int)≤(s:Int):=by omega
 clear hD hB hN hnp hx hsl hx0 hb0 hin
 go_enter Try.func18,Try.ntmps18
 go_upto_region 1 with fail
 generalize w.alloc (.cells #[.slice p N c,v1,.slice pi ni ci,v3,.slice pp np cp,v5,v6] 31)=w4 at *
 have d0:=HB.out.1.cell (i:=0) rfl
 have d1:=HB.out.1.cell (i:=1) rfl
 have d2:=HB.out.1.cell (i:=2) rfl
 have d3:=HB.out.1.cell (i:=3) rfl
 have d4:=HB.out.1.cell (i:=4) rfl
 have d5:=HB.out.1.cell (i:=5) rfl
 have d6:=HB.out.1.cell (i:=6) rfl
 go_wp2_with fail
 refine (HIn.out w4 HB.out.2).mono ?_;rintro e w5 ⟨q,rfl,hb5⟩
 have H5:=Lib.hid (HB.out.2.trans (hb5.mono HB.out.2.size))
 have HX5:=Lib.hid (HB.out.1.next hb5)
 clear hb5 d0 d1 d2 d3 d4 d5 d6
 cases q with
 | true =>
  go_wp2_with fail
  go_ret
  exact ⟨1,rfl,H5.out⟩
 | false =>
 have hsg:=(HD.out.1.low (H5.out.mono HD.out.2.1)).sg.ro
 obtain ⟨b,o,rfl⟩:=hsg.sl (sigCells_at HD.out.2.2.2.2.1).1
 have c3:=hsg.cell (sigCells_at HD.out.2.2.2.2.1).2.2.2
 rw [←Nat.add_assoc] at c3
 have d0:=HX5.out.cell (i:=0) rfl
 obtain ⟨xn,xw,xg,xq⟩:=x
 dsimp only at c3
 clear hsg
 by_cases hq:0<xq
 ·have hqi:(0:Int)<(xq:Int):=by omega
  clear hq
  go_wp2_with fail
  go_ret
  exact ⟨5,rfl,H5.out⟩
 obtain rfl:xq=0:=by omega
 clear hq
 go_wp2_with fail
 clear c3 d0
 go_loopw [5] (λ iv wr=>∃ i:Nat,iv = .int .i64 i∧i≤np∧Below w.heap.size w wr∧Blk wr w.heap.size 31 [.slice (some ⟨b,o,none⟩) N c,v1,.slice pi ni ci,v3,.slice pp np cp,v5,v6]) (λ iv _=>np-(intOf iv).toNat)
 case atStart=>exact ⟨0,rfl,Nat.zero_le _,H5.out,HX5.out⟩
 case round =>
  obtain ⟨i,rfl,hi,hbr,hxr⟩:=hrel
  have HL:=Lib.hid (And.intro hbr (And.intro hxr hi))
  have d0:=hxr.cell (i:=0) rfl
  have d1:=hxr.cell (i:=1) rfl
  have d2:=hxr.cell (i:=2) rfl
  have d3:=hxr.cell (i:=3) rfl
  have d4:=hxr.cell (i:=4) rfl
  have d5:=hxr.cell (i:=5) rfl
  have d6:=hxr.cell (i:=6) rfl
  by_cases hlt:i<np
  ·obtain ⟨q,hq⟩:∃ q,ps[i]? = some q:=⟨_,List.getElem?_eq_getElem (by rw [HD.out.2.2.2.1];exact hlt)⟩
   have hwf:=HD.out.1.wf q (List.mem_of_getElem? hq)
   have hDr:=HD.out.1.low (hbr.mono HD.out.2.1)
   obtain ⟨b',o',pb,cb,bc,rfl,hbB,c0,c1,c2,c3,c4,hr,hs⟩:=hDr.at hq
   obtain ⟨kd,q1,q2,q3,body⟩:=q
   dsimp only at c0 c1 c2 c3 c4 hr hs hwf
   obtain ⟨bn,hbn⟩:∃ n,body.len=n:=⟨_,rfl⟩
   have HR:=Lib.hid (And.intro hr (And.intro hs (And.intro hwf (And.intro hDr hbn))))
   rw [hbn] at c4
   have hii:(i:Int)<(np:Int):=by omega
   have hi0:(0:Int)≤(i:Int):=by omega
   have hiw:IntKind.i64.wrap ((i:Int)+1)=((i+1:Nat):Int):=by rw [i64_of (by have:=HD.out.1.pl;have:=HD.out.2.2.2.1;omega)];omega
   have HLt:=Lib.hid hlt
   have HR0:Hid (ROA (λ k=>k<B) wr (.slice pb body.len cb) 16 body.len bc∧SR (λ k=>k<B) wr body bc):=Lib.hid ⟨hr,hs⟩
   clear hlt hi hq hwf hDr hr hs hbn hbB hbr hxr
   go_upto_region 9 with fail
   have hbp:=Below.new wr (.cells #[.int .i64 (kd:Nat),.int .i64 (q1:Nat),.int .i64 (q2:Nat),.int .i64 (q3:Nat),.slice pb bn cb] 72)
   have hxp:=Blk.new (w:=wr) 72 [.int .i64 (kd:Nat),.int .i64 (q1:Nat),.int .i64 (q2:Nat),.int .i64 (q3:Nat),.slice pb bn cb]
   obtain ⟨bp,hbp0⟩:∃ bp,wr.heap.size=bp:=⟨_,rfl⟩
   have H6:=Lib.hid (And.intro (HL.out.1.trans (hbp.mono HL.out.1.size)) (And.intro (HL.out.2.1.next hbp) (And.intro hxp hbp)))
   rw [hbp0] at H6 ⊢
   generalize wr.alloc (.cells #[.int .i64 (kd:Nat),.int .i64 (q1:Nat),.int .i64 (q2:Nat),.int .i64 (q3:Nat),.slice pb bn cb] 72)=w6 at *
   clear hbp hxp c0 c1 c2 c3 c4 d0 d1 d2 d3 d4 d5 d6
   have d0:=H6.out.2.1.cell (i:=0) rfl
   have d1:=H6.out.2.1.cell (i:=1) rfl
   have d2:=H6.out.2.1.cell (i:=2) rfl
   have d3:=H6.out.2.1.cell (i:=3) rfl
   have d4:=H6.out.2.1.cell (i:=4) rfl
   have d5:=H6.out.2.1.cell (i:=5) rfl
   have d6:=H6.out.2.1.cell (i:=6) rfl
   have y0:=H6.out.2.2.1.cell (i:=0) rfl
   have y1:=H6.out.2.2.1.cell (i:=1) rfl
   have y2:=H6.out.2.2.1.cell (i:=2) rfl
   have y3:=H6.out.2.2.1.cell (i:=3) rfl
   have y4:=H6.out.2.2.1.cell (i:=4) rfl
   go_wp2_with fail
   have hwc:=writes_any (v1:=v1) (v2 := .slice pi ni ci) (v3:=v3) (v4 := .slice (some ⟨b',o',none⟩) np cp) (v5:=v5) (v6:=v6) (kv := .int .i64 kd) (q1 := .int .i64 q1) (q2 := .int .i64 q2) (q3 := .int .i64 q3) (w:=w6) (B:=B) (l:=l) (by have:=HD.out.2.1;have:=H6.out.1.size;omega) ((HD.out.1.low (H6.out.1.mono HD.out.2.1)).sg) HR.out.2.2.1.1 HR.out.2.2.1.2 (HR.out.1.turn λ k hk hk2=>⟨hk,H6.out.2.2.2.block k (Nat.lt_of_lt_of_le hk2 (Nat.le_of_eq (by first | rfl | exact hbp0)))⟩) (HR.out.2.1.turn ER.stay λ k hk hk2=>⟨hk,H6.out.2.2.2.block k (Nat.lt_of_lt_of_le hk2 (Nat.le_of_eq (by first | rfl | exact hbp0)))⟩)
   rw [HD.out.2.2.1,HR.out.2.2.2.2] at hwc
   refine hwc.mono ?_;rintro e w7 ⟨g,V,b1,rfl,hge,hus,hb7⟩
   have H7:=Lib.hid (And.intro hus (And.intro hb7 (And.intro (H6.out.1.trans (hb7.mono H6.out.1.size)) (And.intro (H6.out.2.1.next hb7) (H6.out.2.2.1.next hb7)))))
   clear hwc hus hge hb7 d0 d1 d2 d3 d4 d5 d6 y0 y1 y2 y3 y4
   have hhas:=has_any (w:=w7) (k:=s) H7.out.1 (n:=N) (by rw [writesP_len];simp [sizes];exact HD.out.2.2.1) (by omega)
   obtain ⟨q,hq⟩:∃ q,decide (0<((writesP (sizes l) kAll body).getD s []).length)=q:=⟨_,rfl⟩
   rw [hq] at hhas
   have HHas:=Lib.hid hhas
   clear hhas hq
   go_wp2_with fail
   refine HHas.out.mono ?_;rintro e w8 ⟨rfl,hb8⟩
   have H8:=Lib.hid (And.intro (H7.out.2.2.1.trans (hb8.mono H7.out.2.2.1.size)) (And.intro (H7.out.2.2.2.1.next hb8) (H7.out.2.2.2.2.next hb8)))
   clear hb8 H7 HHas
   cases q with
   | false =>
    go_wp2_with fail
    go_roundw
    case rel=>exact ⟨i+1,by go_num,HLt.out,H8.out.1,H8.out.2.1⟩
    case measure=>simp [intOf];have:=HLt.out;omega
   | true =>
   have y0:=H8.out.2.2.cell (i:=0) rfl
   have y4:=H8.out.2.2.cell (i:=4) rfl
   by_cases hk:kd=3
   ·have hki:((kd:Int) == 3)=true:=by simp;omega
    clear hk
    have d0:=H8.out.2.1.cell (i:=0) rfl
    have d1:=H8.out.2.1.cell (i:=1) rfl
    have d2:=H8.out.2.1.cell (i:=2) rfl
    have d3:=H8.out.2.1.cell (i:=3) rfl
    have d4:=H8.out.2.1.cell (i:=4) rfl
    have d5:=H8.out.2.1.cell (i:=5) rfl
    have d6:=H8.out.2.1.cell (i:=6) rfl
    go_upto_region 12 with fail
    clear y0
    have hxw:=Lib.hid (And.intro H8.out.2.1.lt H8.out.2.2.lt)
    have s0:w8.drew.cell? ⟨w.heap.size,0,none⟩=some (.slice (some ⟨b,o,none⟩) N c)∧w8.drew.cell? ⟨w.heap.size,1,none⟩=some (v1)∧w8.drew.cell? ⟨w.heap.size,2,none⟩=some (.slice pi ni ci)∧w8.drew.cell? ⟨w.heap.size,3,none⟩=some (v3)∧w8.drew.cell? ⟨w.heap.size,4,none⟩=some (.slice (some ⟨b',o',none⟩) np cp)∧w8.drew.cell? ⟨w.heap.size,5,none⟩=some (v5)∧w8.drew.cell? ⟨w.heap.size,6,none⟩=some (v6)∧w8.drew.cell? ⟨bp,4,none⟩=some (.slice pb bn cb):=⟨d0,d1,d2,d3,d4,d5,d6,y4⟩
    have hlen:=HR.out.2.2.1
    have HWc:Hid (∀ (W:World) (g b2:Nat) (V:Nat→Value),w8.heap.size≤b2→UsM b2 g W (List.replicate N []) V→Below w8.heap.size w8 W→Calls Try.prog 35 #[.agg #[.slice (some ⟨b,o,none⟩) N c,v1,.slice pi ni ci,v3,.slice (some ⟨b',o',none⟩) np cp,v5,v6],.agg #[usV g N],.slice pb bn cb,.int .i64 1,.int .i64 1] W (AddR b2 g N W V (writesP (sizes l) (fAB 1 1) body))):=Lib.hid λ W g b2 V h1 h2 h3=>by
     have hb68:Below B w w8:=H8.out.1.mono HD.out.2.1
     have hbr8:∀ k,k<B→w8.heap[k]? = wr.heap[k]? := λ k hk=>by rw [hb68.block k hk,HL.out.1.block k (by have:=HD.out.2.1;omega)]
     have:=wr_call 1 1 (v1:=v1) (v2 := .slice pi ni ci) (v3:=v3) (v4 := .slice (some ⟨b',o',none⟩) np cp) (v5:=v5) (v6:=v6) (w:=w8) (B:=B) (l:=l) ((HD.out.1.low hb68).sg) HR.out.2.2.1.1 HR.out.2.2.1.2 (HR0.out.1.turn λ k hk hk2=>⟨hk,hbr8 k hk⟩) (HR0.out.2.turn ER.stay λ k hk hk2=>⟨hk,hbr8 k hk⟩) HD.out.2.2.1 W g b2 V h1 h2 h3
     rw [HR.out.2.2.2.2] at this
     exact this
    obtain ⟨q,hq⟩:∃ q,decide (0<((writesP (sizes l) (fAB 1 1) body).getD s []).length)=q:=⟨_,rfl⟩
    have HHs:Hid (∀ (W:World) (g b2:Nat) (V:Nat→Value),UsM b2 g W (writesP (sizes l) (fAB 1 1) body) V→Calls Try.prog 14 #[.agg #[usV g N],.int .i64 s] W λ e w'=>e = .returned (.bool q)∧Below W.heap.size W w'):=Lib.hid λ W g b2 V h=>by rw [←hq];exact has_any h (by rw [writesP_len];simp [sizes];exact HD.out.2.2.1) (by omega)
    have HNo:=Lib.hid (λ W=>none_any (w:=W) (p:=some ⟨b,o,none⟩) (n:=N) (c:=c) (v1:=v1) (v2 := .slice pi ni ci) (v3:=v3) (v4 := .slice (some ⟨b',o',none⟩) np cp) (v5:=v5) (v6:=v6) (by have:=HD.out.1.sg.le;have:=HD.out.2.2.1;omega))
    have HBd:Hid (Below w8.heap.size w8 w8.drew):=Lib.hid (Below.refl _ _).drew
    have h2s:=hxw
    clear hlen hq y4 d0 d1 d2 d3 d4 d5 d6
    go_region_held3 (λ w'=>w'.cell? ⟨w.heap.size,0,none⟩=some (.slice (some ⟨b,o,none⟩) N c)∧w'.cell? ⟨w.heap.size,1,none⟩=some (v1)∧w'.cell? ⟨w.heap.size,2,none⟩=some (.slice pi ni ci)∧w'.cell? ⟨w.heap.size,3,none⟩=some (v3)∧w'.cell? ⟨w.heap.size,4,none⟩=some (.slice (some ⟨b',o',none⟩) np cp)∧w'.cell? ⟨w.heap.size,5,none⟩=some (v5)∧w'.cell? ⟨w.heap.size,6,none⟩=some (v6)∧w'.cell? ⟨bp,4,none⟩=some (.slice pb bn cb))
     (first | (with_reducible assumption))
     (first
      | (go_at_call 36;have hca:=HNo.out w8.drew;(with_reducible refine hca.mono ?_);clear hca;rintro e w9 ⟨g9,rfl,hu9,hb9⟩;have s9:w9.cell? ⟨w.heap.size,0,none⟩=some (.slice (some ⟨b,o,none⟩) N c)∧w9.cell? ⟨w.heap.size,1,none⟩=some (v1)∧w9.cell? ⟨w.heap.size,2,none⟩=some (.slice pi ni ci)∧w9.cell? ⟨w.heap.size,3,none⟩=some (v3)∧w9.cell? ⟨w.heap.size,4,none⟩=some (.slice (some ⟨b',o',none⟩) np cp)∧w9.cell? ⟨w.heap.size,5,none⟩=some (v5)∧w9.cell? ⟨w.heap.size,6,none⟩=some (v6)∧w9.cell? ⟨bp,4,none⟩=some (.slice pb bn cb):=⟨(hb9.cell (World.block_lt_of_cell? _ _ s0.1)).trans s0.1,(hb9.cell (World.block_lt_of_cell? _ _ s0.2.1)).trans s0.2.1,(hb9.cell (World.block_lt_of_cell? _ _ s0.2.2.1)).trans s0.2.2.1,(hb9.cell (World.block_lt_of_cell? _ _ s0.2.2.2.1)).trans s0.2.2.2.1,(hb9.cell (World.block_lt_of_cell? _ _ s0.2.2.2.2.1)).trans s0.2.2.2.2.1,(hb9.cell (World.block_lt_of_cell? _ _ s0.2.2.2.2.2.1)).trans s0.2.2.2.2.2.1,(hb9.cell (World.block_lt_of_cell? _ _ s0.2.2.2.2.2.2.1)).trans s0.2.2.2.2.2.2.1,(hb9.cell (World.block_lt_of_cell? _ _ s0.2.2.2.2.2.2.2)).trans s0.2.2.2.2.2.2.2⟩;have H9:Hid (UsM w8.drew.heap.size g9 w9 (List.replicate N []) (λ _ => .slice none 0 0)∧Below w8.drew.heap.size w8.drew w9):=Lib.hid (And.intro hu9 hb9);clear hu9 hb9)
      | (go_at_call 35;have hca:=HWc.out w9 g9 w8.drew.heap.size (λ _ => .slice none 0 0) HBd.out.size H9.out.1 (Below.trans HBd.out H9.out.2);(with_reducible refine hca.mono ?_);clear hca;rintro e w10 ⟨rfl,V10,hu10,hp10⟩;have hnf:∀ b,b<w8.drew.heap.size→¬FV g9 (λ _=>Value.slice none 0 0) b:=λ b hb hf=>(by have:=(UsM.flt H9.out.1 b hf).1;omega);have s10:w10.cell? ⟨w.heap.size,0,none⟩=some (.slice (some ⟨b,o,none⟩) N c)∧w10.cell? ⟨w.heap.size,1,none⟩=some (v1)∧w10.cell? ⟨w.heap.size,2,none⟩=some (.slice pi ni ci)∧w10.cell? ⟨w.heap.size,3,none⟩=some (v3)∧w10.cell? ⟨w.heap.size,4,none⟩=some (.slice (some ⟨b',o',none⟩) np cp)∧w10.cell? ⟨w.heap.size,5,none⟩=some (v5)∧w10.cell? ⟨w.heap.size,6,none⟩=some (v6)∧w10.cell? ⟨bp,4,none⟩=some (.slice pb bn cb):=⟨hp10.cell s9.1 (hnf _ (by exact h2s.out.1)),hp10.cell s9.2.1 (hnf _ (by exact h2s.out.1)),hp10.cell s9.2.2.1 (hnf _ (by exact h2s.out.1)),hp10.cell s9.2.2.2.1 (hnf _ (by exact h2s.out.1)),hp10.cell s9.2.2.2.2.1 (hnf _ (by exact h2s.out.1)),hp10.cell s9.2.2.2.2.2.1 (hnf _ (by exact h2s.out.1)),hp10.cell s9.2.2.2.2.2.2.1 (hnf _ (by exact h2s.out.1)),hp10.cell s9.2.2.2.2.2.2.2 (hnf _ (by exact h2s.out.2))⟩;have H10:Hid (UsM w8.drew.heap.size g9 w10 (writesP (sizes l) (fAB 1 1) body) V10∧Below w8.drew.heap.size w9 w10):=Lib.hid (And.intro hu10 (Upd.lowF hp10 (λ b hb=>(UsM.flt H9.out.1 b hb).1) H9.out.2.size));clear hu10 hp10 hnf)
      | (go_at_call 14;have hca:=HHs.out w10 g9 _ V10 H10.out.1;(with_reducible refine hca.mono ?_);clear hca;rintro e w11 ⟨rfl,hb11⟩;have s11:w11.cell? ⟨w.heap.size,0,none⟩=some (.slice (some ⟨b,o,none⟩) N c)∧w11.cell? ⟨w.heap.size,1,none⟩=some (v1)∧w11.cell? ⟨w.heap.size,2,none⟩=some (.slice pi ni ci)∧w11.cell? ⟨w.heap.size,3,none⟩=some (v3)∧w11.cell? ⟨w.heap.size,4,none⟩=some (.slice (some ⟨b',o',none⟩) np cp)∧w11.cell? ⟨w.heap.size,5,none⟩=some (v5)∧w11.cell? ⟨w.heap.size,6,none⟩=some (v6)∧w11.cell? ⟨bp,4,none⟩=some (.slice pb bn cb):=⟨(hb11.cell (World.block_lt_of_cell? _ _ s10.1)).trans s10.1,(hb11.cell (World.block_lt_of_cell? _ _ s10.2.1)).trans s10.2.1,(hb11.cell (World.block_lt_of_cell? _ _ s10.2.2.1)).trans s10.2.2.1,(hb11.cell (World.block_lt_of_cell? _ _ s10.2.2.2.1)).trans s10.2.2.2.1,(hb11.cell (World.block_lt_of_cell? _ _ s10.2.2.2.2.1)).trans s10.2.2.2.2.1,(hb11.cell (World.block_lt_of_cell? _ _ s10.2.2.2.2.2.1)).trans s10.2.2.2.2.2.1,(hb11.cell (World.block_lt_of_cell? _ _ s10.2.2.2.2.2.2.1)).trans s10.2.2.2.2.2.2.1,(hb11.cell (World.block_lt_of_cell? _ _ s10.2.2.2.2.2.2.2)).trans s10.2.2.2.2.2.2.2⟩;have H11:Hid (Below w.heap.size w w11):=Lib.hid (Below.trans H8.out.1 (Below.mono (Below.trans (Below.trans (Below.trans HBd.out H9.out.2) H10.out.2) (Below.mono hb11 (Nat.le_trans H9.out.2.size H10.out.2.size))) H8.out.1.size));clear hb11))
    clear s0 s9 s10 s11
    cases q
    ·go_wp2_with fail
     go_ret
     exact ⟨3,rfl,H11.out⟩
    ·go_wp2_with fail
     go_ret
     exact ⟨4,rfl,H11.out⟩
   ·have hki:((kd:Int) == 3)=false:=by simp;omega
    clear hk
    go_wp2_with fail
    go_ret
    exact ⟨2,rfl,H8.out.1⟩
  ·have hii:¬(i:Int)<(np:Int):=by omega
   clear hlt hi hbr hxr
   go_wp2_with fail
   go_ret
   exact ⟨0,rfl,HL.out.1⟩
def leadsP (l:List Sg) (ps:List Pr) (i k:Nat):Bool :=
 if (ps.getD i default).kind=3∨(ps.getD k default).kind=3∨(i=k∧(ps.getD i default).kind=2) then false
 else (List.range l.length).any λ s=>meetP ((writesP (sizes l) kAll (ps.getD i default).body).getD s []) ((readsP (sizes l) (ps.getD k default).body).getD s [])
theorem writesP_wu (sz:List Nat) (f:Nat→Bool) (b:SL):WU sz (writesP sz f b):=WU.adds _ (WU.none sz)
set_option maxRecDepth 100000 in
set_option maxHeartbeats 8000000 in
theorem leads_any {B:Nat} {w:World} {l:List Sg} {ps:List Pr} {p:Option Addr} {c:Nat} {pi:Option Addr} {ni ci:Nat} {il:List Int} {pp:Option Addr} {cp:Nat} {pc:List Value} {v1 v3 v5 v6:Value} (hD:Des B w l ps p c pi ni ci il pp cp pc) (hB:B≤w.heap.size) (i k:Nat) (hi:i<ps.length) (hk:k<ps.length) :
  Calls Try.prog 9 #[.agg #[.slice p l.length c,v1,.slice pi ni ci,v3,.slice pp ps.length cp,v5,v6],.int .i64 i,.int .i64 k] w λ e w'=>e = .returned (.bool (leadsP l ps i k))∧Below w.heap.size w w':=by
 obtain ⟨N,hN⟩:∃ N,l.length=N:=⟨_,rfl⟩
 obtain ⟨np,hnp⟩:∃ np,ps.length=np:=⟨_,rfl⟩
 obtain ⟨qa,hqa⟩:∃ q,ps[i]? = some q:=⟨_,List.getElem?_eq_getElem hi⟩
 obtain ⟨qb,hqb⟩:∃ q,ps[k]? = some q:=⟨_,List.getElem?_eq_getElem hk⟩
 have hwa:=hD.wf qa (List.mem_of_getElem? hqa)
 have hwb:=hD.wf qb (List.mem_of_getElem? hqb)
 have hga:ps.getD i default=qa:=by rw [List.getD,hqa];rfl
 have hgb:ps.getD k default=qb:=by rw [List.getD,hqb];rfl
 obtain ⟨R,hR⟩:∃ R,leadsP l ps i k=R:=⟨_,rfl⟩
 rw [hR]
 unfold leadsP at hR
 rw [hga,hgb] at hR
 have hb0:=Below.new w (.cells #[.slice p l.length c,v1,.slice pi ni ci,v3,.slice pp ps.length cp,v5,v6] 31)
 have hx0:=Blk.new (w:=w) 31 [.slice p l.length c,v1,.slice pi ni ci,v3,.slice pp ps.length cp,v5,v6]
 have hD1:=hD.low (hb0.mono hB)
 obtain ⟨bb,oo,pa,cva,ac,rfl,hbB,c0,c1,c2,c3,c4,hra,hsa⟩:=hD1.at hqa
 obtain ⟨bb',oo',pb,cb,bc,e,_,e0,e1,e2,e3,e4,hrb,hsb⟩:=hD1.at hqb
 cases e
 obtain ⟨ka,a1,a2,a3,abody⟩:=qa
 obtain ⟨kb,b1,b2,b3,bbody⟩:=qb
 dsimp only at c0 c1 c2 c3 c4 e0 e1 e2 e3 e4 hra hsa hrb hsb hwa hwb hR
 obtain ⟨an,han⟩:∃ n,abody.len=n:=⟨_,rfl⟩
 obtain ⟨bn,hbn⟩:∃ n,bbody.len=n:=⟨_,rfl⟩
 have hWr:∀ W,Below w.heap.size w W→Calls Try.prog 15 #[.agg #[.slice p N c,v1,.slice pi ni ci,v3,.slice (some ⟨bb,oo,none⟩) np cp,v5,v6],.agg #[.int .i64 (ka:Nat),.int .i64 (a1:Nat),.int .i64 (a2:Nat),.int .i64 (a3:Nat),.slice pa an cva]] W (UseR W N (writesP (sizes l) kAll abody)):=λ W hb=>by
  have:=writes_any (v1:=v1) (v2 := .slice pi ni ci) (v3:=v3) (v4 := .slice (some ⟨bb,oo,none⟩) np cp) (v5:=v5) (v6:=v6) (kv := .int .i64 ka) (q1 := .int .i64 a1) (q2 := .int .i64 a2) (q3 := .int .i64 a3) (w:=W) (B:=B) (l:=l) (Nat.le_trans hB hb.size) ((hD.low (hb.mono hB)).sg) hwa.1 hwa.2 (hra.turn λ k hk hk2=>⟨hk,by rw [hb.block k (by omega),hb0.block k (by omega)]⟩) (hsa.turn ER.stay λ k hk hk2=>⟨hk,by rw [hb.block k (by omega),hb0.block k (by omega)]⟩)
  rw [hN,han] at this
  exact this
 have hRd:∀ W,Below w.heap.size w W→Calls Try.prog 32 #[.agg #[.slice p N c,v1,.slice pi ni ci,v3,.slice (some ⟨bb,oo,none⟩) np cp,v5,v6],.agg #[.int .i64 (kb:Nat),.int .i64 (b1:Nat),.int .i64 (b2:Nat),.int .i64 (b3:Nat),.slice pb bn cb]] W (UseR W N (readsP (sizes l) bbody)):=λ W hb=>by
  have:=reads_any (v1:=v1) (v2 := .slice pi ni ci) (v3:=v3) (v4 := .slice (some ⟨bb,oo,none⟩) np cp) (v5:=v5) (v6:=v6) (kv := .int .i64 kb) (q1 := .int .i64 b1) (q2 := .int .i64 b2) (q3 := .int .i64 b3) (w:=W) (B:=B) (l:=l) (Nat.le_trans hB hb.size) ((hD.low (hb.mono hB)).sg) hwb.1 hwb.2 (hrb.turn λ k hk hk2=>⟨hk,by rw [hb.block k (by omega),hb0.block k (by omega)]⟩) (hsb.turn ER.stay λ k hk hk2=>⟨hk,by rw [hb.block k (by omega),hb0.block k (by omega)]⟩)
  rw [hN,hbn] at this
  exact this
 have hwl:∀ s,((writesP (sizes l) kAll abody).getD s []).length≤1000:=λ s=>by
  rcases (writesP_wu (sizes l) kAll abody).2 s with h | h
  ·rw [h];exact Nat.zero_le _
  ·rw [h,sizes,List.getD,List.getElem?_map]
   cases hx:l[s]? with
   | none=>exact Nat.zero_le _
   | some x=>exact (hD.sg.sz x (List.mem_of_getElem? hx)).2
 obtain ⟨WP,hWP⟩:∃ WP,writesP (sizes l) kAll abody=WP:=⟨_,rfl⟩
 obtain ⟨RP,hRP⟩:∃ RP,readsP (sizes l) bbody=RP:=⟨_,rfl⟩
 have hwpl:WP.length=N:=by rw [←hWP,writesP_len];simp [sizes];exact hN
 have hrpl:RP.length=N:=by rw [←hRP,readsP_len];simp [sizes];exact hN
 rw [hWP] at hWr hR hwl
 rw [hRP] at hRd hR
 rw [han] at c4
 rw [hbn] at e4
 rw [hN,hnp] at hx0 hb0 c0 c1 c2 c3 c4 e0 e1 e2 e3 e4 ⊢
 rw [hN] at hR
 have hin:i<np:=by omega
 have hkn:k<np:=by omega
 have HWr:=Lib.hid hWr
 have HRd:=Lib.hid hRd
 have HB:=Lib.hid (And.intro hx0 hb0)
 have HR:=Lib.hid hR
 have HP:=Lib.hid (And.intro hwl (And.intro hwpl (And.intro hrpl (show N≤1000 by rw [←hN];exact hD.sg.le))))
 have hii:(i:Int)<(np:Int):=by omega
 have hi0:(0:Int)≤(i:Int):=by omega
 have hki:(k:Int)<(np:Int):=by omega
 have hk0:(0:Int)≤(k:Int):=by omega
 clear hD hB hN hnp hqa hqb hwa hwb hga hgb hb0 hD1 hbB hra hsa hrb hsb hWr hRd hwl hWP hRP hwpl hrpl hR hi hk han hbn hin hkn
 go_enter Try.func9,Try.ntmps9
 go_upto_region 1 with fail
 generalize w.alloc (.cells #[.slice p N c,v1,.slice pi ni ci,v3,.slice (some ⟨bb,oo,none⟩) np cp,v5,v6] 31)=w4 at *
 have d0:=hx0.cell (i:=0) rfl
 have d4:=hx0.cell (i:=4) rfl
 clear hx0
 go_upto_region 2 with fail
 have hba:=Below.new w4 (.cells #[.int .i64 (ka:Nat),.int .i64 (a1:Nat),.int .i64 (a2:Nat),.int .i64 (a3:Nat),.slice pa an cva] 72)
 have hxa:=Blk.new (w:=w4) 72 [.int .i64 (ka:Nat),.int .i64 (a1:Nat),.int .i64 (a2:Nat),.int .i64 (a3:Nat),.slice pa an cva]
 have HG4:=Lib.hid (show w.heap.size<w4.heap.size from HB.out.1.lt)
 replace d0:=ca d0 (.cells #[.int .i64 (ka:Nat),.int .i64 (a1:Nat),.int .i64 (a2:Nat),.int .i64 (a3:Nat),.slice pa an cva] 72)
 replace d4:=ca d4 (.cells #[.int .i64 (ka:Nat),.int .i64 (a1:Nat),.int .i64 (a2:Nat),.int .i64 (a3:Nat),.slice pa an cva] 72)
 replace e0:=ca e0 (.cells #[.int .i64 (ka:Nat),.int .i64 (a1:Nat),.int .i64 (a2:Nat),.int .i64 (a3:Nat),.slice pa an cva] 72)
 replace e1:=ca e1 (.cells #[.int .i64 (ka:Nat),.int .i64 (a1:Nat),.int .i64 (a2:Nat),.int .i64 (a3:Nat),.slice pa an cva] 72)
 replace e2:=ca e2 (.cells #[.int .i64 (ka:Nat),.int .i64 (a1:Nat),.int .i64 (a2:Nat),.int .i64 (a3:Nat),.slice pa an cva] 72)
 replace e3:=ca e3 (.cells #[.int .i64 (ka:Nat),.int .i64 (a1:Nat),.int .i64 (a2:Nat),.int .i64 (a3:Nat),.slice pa an cva] 72)
 replace e4:=ca e4 (.cells #[.int .i64 (ka:Nat),.int .i64 (a1:Nat),.int .i64 (a2:Nat),.int .i64 (a3:Nat),.slice pa an cva] 72)
 have H5:=Lib.hid (And.intro (HB.out.2.trans (hba.mono HB.out.2.size)) (And.intro (HB.out.1.next hba) hxa))
 generalize w4.alloc (.cells #[.int .i64 (ka:Nat),.int .i64 (a1:Nat),.int .i64 (a2:Nat),.int .i64 (a3:Nat),.slice pa an cva] 72)=w5 at *
 clear hba hxa c0 c1 c2 c3 c4
 go_upto_region 3 with fail
 have hbb2:=Below.new w5 (.cells #[.int .i64 (kb:Nat),.int .i64 (b1:Nat),.int .i64 (b2:Nat),.int .i64 (b3:Nat),.slice pb bn cb] 72)
 have hxb:=Blk.new (w:=w5) 72 [.int .i64 (kb:Nat),.int .i64 (b1:Nat),.int .i64 (b2:Nat),.int .i64 (b3:Nat),.slice pb bn cb]
 have H6:=Lib.hid (And.intro (H5.out.1.trans (hbb2.mono H5.out.1.size)) (And.intro (H5.out.2.1.next hbb2) (And.intro (H5.out.2.2.next hbb2) hxb)))
 generalize w5.alloc (.cells #[.int .i64 (kb:Nat),.int .i64 (b1:Nat),.int .i64 (b2:Nat),.int .i64 (b3:Nat),.slice pb bn cb] 72)=w6 at *
 clear hbb2 hxb e0 e1 e2 e3 e4 d0 d4
 have x0:=H6.out.2.2.1.cell (i:=0) rfl
 have y0:=H6.out.2.2.2.cell (i:=0) rfl
 go_cut [39] from 40 (λ v39 wx=>v39 = .bool (decide (ka=3∨kb=3∨(i=k∧ka=2)))∧wx=w6)
 case first =>
  by_cases h1:ka=3
  ·subst h1
   go_wp2_with fail
   go_meet
   exact ⟨by simp,rfl⟩
  ·have h1i:((ka:Int) == 3)=false:=by simp;omega
   by_cases h2:kb=3
   ·subst h2
    have H1:=Lib.hid h1
    clear h1
    go_wp2_with fail
    go_meet
    exact ⟨by simp,rfl⟩
   ·have h2i:((kb:Int) == 3)=false:=by simp;omega
    by_cases h3:i=k
    ·have h3i:((i:Int) == (k:Int))=true:=by simp;omega
     by_cases h4:ka=2
     ·have h4i:((ka:Int) == 2)=true:=by simp;omega
      have HQ:=Lib.hid (And.intro h1 (And.intro h2 (And.intro h3 h4)))
      clear h1 h2 h3 h4
      go_wp2_with fail
      go_meet
      exact ⟨by rw [decide_eq_true (show ka=3∨kb=3∨(i=k∧ka=2) from .inr (.inr HQ.out.2.2))],rfl⟩
     ·have h4i:((ka:Int) == 2)=false:=by simp;omega
      have HQ:=Lib.hid (And.intro h1 (And.intro h2 (And.intro h3 h4)))
      clear h1 h2 h3 h4
      go_wp2_with fail
      go_meet
      exact ⟨by rw [decide_eq_false (show ¬(ka=3∨kb=3∨(i=k∧ka=2)) from λ h=>h.elim HQ.out.1 (λ h=>h.elim HQ.out.2.1 (λ h=>HQ.out.2.2.2 h.2)))],rfl⟩
    ·have h3i:((i:Int) == (k:Int))=false:=by simp;omega
     have HQ:=Lib.hid (And.intro h1 (And.intro h2 h3))
     clear h1 h2 h3
     go_wp2_with fail
     go_meet
     exact ⟨by rw [decide_eq_false (show ¬(ka=3∨kb=3∨(i=k∧ka=2)) from λ h=>h.elim HQ.out.1 (λ h=>h.elim HQ.out.2.1 (λ h=>HQ.out.2.2 h.1)))],rfl⟩
 case rest =>
  obtain ⟨rfl,hwc⟩:=hcut
  have hwc2:=hwc.symm
  clear hwc
  subst hwc2
  by_cases hq:ka=3∨kb=3∨(i=k∧ka=2)
  ·have hRf:R=false:=by rw [←HR.out,if_pos hq]
   subst hRf
   rw [decide_eq_true hq]
   clear hq x0 y0
   go_wp2_with fail
   go_ret
   exact ⟨rfl,H6.out.1⟩
  have hRn:((List.range N).any λ s=>meetP (WP.getD s []) (RP.getD s []))=R:=by rw [←HR.out,if_neg hq]
  have HRn:=Lib.hid hRn
  rw [decide_eq_false hq]
  clear hq hRn x0 y0 HR
  have d0:=H6.out.2.1.cell (i:=0) rfl
  have d1:=H6.out.2.1.cell (i:=1) rfl
  have d2:=H6.out.2.1.cell (i:=2) rfl
  have d3:=H6.out.2.1.cell (i:=3) rfl
  have d4:=H6.out.2.1.cell (i:=4) rfl
  have d5:=H6.out.2.1.cell (i:=5) rfl
  have d6:=H6.out.2.1.cell (i:=6) rfl
  have x0:=H6.out.2.2.1.cell (i:=0) rfl
  have x1:=H6.out.2.2.1.cell (i:=1) rfl
  have x2:=H6.out.2.2.1.cell (i:=2) rfl
  have x3:=H6.out.2.2.1.cell (i:=3) rfl
  have x4:=H6.out.2.2.1.cell (i:=4) rfl
  go_wp2_with fail
  refine (HWr.out w6 H6.out.1).mono ?_;rintro e w7 ⟨g,V,b7,rfl,hge7,hu7,hb7⟩
  clear d0 d1 d2 d3 d4 d5 d6 x0 x1 x2 x3 x4
  go_upto_region 6 with fail
  have hb8:=Below.new w7 (.cells #[usV g N] 86)
  have hx8:=Blk.new (w:=w7) 86 [usV g N]
  have H8:=Lib.hid (And.intro (H6.out.1.trans ((Below.next hb7 hb8).mono H6.out.1.size)) (And.intro (H6.out.2.1.next (Below.next hb7 hb8)) (And.intro (H6.out.2.2.2.next (Below.next hb7 hb8)) (And.intro (hu7.below hb8) hx8))))
  generalize w7.alloc (.cells #[usV g N] 86)=w8 at *
  clear hu7 hb7 hb8 hx8 hge7
  have d0:=H8.out.2.1.cell (i:=0) rfl
  have d1:=H8.out.2.1.cell (i:=1) rfl
  have d2:=H8.out.2.1.cell (i:=2) rfl
  have d3:=H8.out.2.1.cell (i:=3) rfl
  have d4:=H8.out.2.1.cell (i:=4) rfl
  have d5:=H8.out.2.1.cell (i:=5) rfl
  have d6:=H8.out.2.1.cell (i:=6) rfl
  have y0:=H8.out.2.2.1.cell (i:=0) rfl
  have y1:=H8.out.2.2.1.cell (i:=1) rfl
  have y2:=H8.out.2.2.1.cell (i:=2) rfl
  have y3:=H8.out.2.2.1.cell (i:=3) rfl
  have y4:=H8.out.2.2.1.cell (i:=4) rfl
  go_wp2_with fail
  refine (HRd.out w8 H8.out.1).mono ?_;rintro e w9 ⟨h,V',b9,rfl,hge9,hu9,hb9⟩
  clear d0 d1 d2 d3 d4 d5 d6 y0 y1 y2 y3 y4
  go_upto_region 7 with fail
  have hb10:=Below.new w9 (.cells #[usV h N] 86)
  have hx10:=Blk.new (w:=w9) 86 [usV h N]
  have H10:=Lib.hid (And.intro (H8.out.1.trans ((Below.next hb9 hb10).mono H8.out.1.size)) (And.intro (H8.out.2.1.next (Below.next hb9 hb10)) (And.intro (H8.out.2.2.2.1.below (Below.next hb9 hb10)) (And.intro (H8.out.2.2.2.2.next (Below.next hb9 hb10)) (And.intro (hu9.below hb10) hx10)))))
  generalize w9.alloc (.cells #[usV h N] 86)=w10 at *
  clear hu9 hb9 hb10 hx10 hge9
  go_wp2_with fail
  go_loopw [11] (λ iv wr=>∃ s:Nat,iv = .int .i64 s∧s≤N∧Below w10.heap.size w10 wr∧(∀ t,t<s→meetP (WP.getD t []) (RP.getD t [])=false)) (λ iv _=>N-(intOf iv).toNat)
  case atStart=>exact ⟨0,rfl,Nat.zero_le _,Below.refl _ _,λ t ht=>absurd ht (by omega)⟩
  case round =>
   obtain ⟨s,rfl,hs,hbr,hno⟩:=hrel
   have HL:=Lib.hid (And.intro hs (And.intro hbr hno))
   have d0:=(H10.out.2.1.next hbr).cell (i:=0) rfl
   have x0:=(H10.out.2.2.2.1.next hbr).cell (i:=0) rfl
   have y0:=(H10.out.2.2.2.2.2.next hbr).cell (i:=0) rfl
   clear hs hbr hno
   by_cases hlt:s<N
   ·have hsi:(s:Int)<(N:Int):=by omega
    have hs0:(0:Int)≤(s:Int):=by omega
    have hsw:IntKind.i64.wrap ((s:Int)+1)=((s+1:Nat):Int):=by rw [i64_of (by have:=HP.out.2.2.2;omega)];omega
    have hm:=meet_any (w:=wr) (k:=s) (H10.out.2.2.1.below HL.out.2.1) (H10.out.2.2.2.2.1.below HL.out.2.1) HP.out.2.1 HP.out.2.2.1 hlt (HP.out.1 s)
    obtain ⟨q,hq⟩:∃ q,meetP (WP.getD s []) (RP.getD s [])=q:=⟨_,rfl⟩
    rw [hq] at hm
    have HM:=Lib.hid hm
    have HQ:=Lib.hid (And.intro hq hlt)
    clear hm hq hlt
    go_wp2_with fail
    refine HM.out.mono ?_;rintro e w11 ⟨rfl,hb11⟩
    have H11:=Lib.hid (HL.out.2.1.trans (hb11.mono HL.out.2.1.size))
    clear hb11 d0 x0 y0
    cases q with
    | true =>
     go_wp2_with fail
     go_ret
     refine ⟨?_,H10.out.1.trans (H11.out.mono H10.out.1.size)⟩
     rw [←HRn.out,List.any_eq_true.2 ⟨s,List.mem_range.2 HQ.out.2,HQ.out.1⟩]
     rfl
    | false =>
     go_wp2_with fail
     go_roundw
     case rel =>
      refine ⟨s+1,by go_num,HQ.out.2,H11.out,λ t ht => ?_⟩
      by_cases e:t=s
      ·subst e;exact HQ.out.1
      ·exact HL.out.2.2 t (by omega)
     case measure=>simp [intOf];have:=HQ.out.2;omega
   ·have hsi:¬(s:Int)<(N:Int):=by omega
    have HQ:=Lib.hid hlt
    clear hlt
    go_wp2_with fail
    go_ret
    refine ⟨?_,H10.out.1.trans (HL.out.2.1.mono H10.out.1.size)⟩
    rw [←HRn.out,List.any_eq_false.2 λ t ht=>by rw [HL.out.2.2 t (by have:=List.mem_range.1 ht;have:=HQ.out;omega)];simp]
    rfl
open Go.RowKit Go.Sort
abbrev RowV:=Value × Nat × List Value
structure MemZ {K:Type} (et es:K→Nat) (base b:Nat) (w:World) (R:K→RowV):Prop where
 own:∀ k,w.ownsRow base (et k) (es k) (R k).1 (R k).2.1 (R k).2.2
 ne:∀ k k',k≠k'→∀ g,(R k).1.ownBlock=some g→(R k').1.ownBlock≠some g
 nb:∀ k,(R k).1.ownBlock≠some b
 hb:base≤b
 lt:b<w.heap.size
def updZ {K:Type} [DecidableEq K] (R:K→RowV) (k:K) (r:RowV):K→RowV:=λ k'=>if k'=k then r else R k'
theorem updZ_same {K:Type} [DecidableEq K] (R:K→RowV) (k:K) (r):updZ R k r k=r:=by simp [updZ]
theorem updZ_other {K:Type} [DecidableEq K] (R:K→RowV) {k k':K} (r) (h:k'≠k):updZ R k r k'=R k':=by simp [updZ,h]
theorem own_ltZ {w:World} {base e size n:Nat} {v:Value} {xs:List Value} (h:w.ownsRow base e size v n xs):∀ g,v.ownBlock=some g→base≤g∧g<w.heap.size:=λ g hg=>by
 rcases h.2 with ⟨rfl,_⟩ | ⟨g',cap,cur,rfl,h1,h2,_⟩
 ·cases hg
 ·cases hg;exact ⟨h1,some_lt h2⟩
section
variable {K:Type} {et es:K→Nat} {base b:Nat} {w w':World} {R:K→RowV}
theorem MemZ.lts (h:MemZ et es base b w R) (k:K):∀ g,(R k).1.ownBlock=some g→base≤g∧g<w.heap.size:=own_ltZ (h.own k)
theorem MemZ.keep (h:MemZ et es base b w R) (hs:w.heap.size≤w'.heap.size) (hold:∀ k g,(R k).1.ownBlock=some g→w'.heap[g]? = w.heap[g]?):MemZ et es base b w' R :=
 ⟨λ k=>ownsRow_keep (h.own k) (λ g hg=>hold k g hg),h.ne,h.nb,h.hb,Nat.lt_of_lt_of_le h.lt hs⟩
theorem MemZ.put [DecidableEq K] (h:MemZ et es base b w R) (k:K) {v':Value} {n:Nat} {xs:List Value} (hown:w'.ownsRow base (et k) (es k) v' n xs) (hs:w.heap.size≤w'.heap.size)
  (hat:∀ g,v'.ownBlock=some g→(R k).1.ownBlock=some g∨w.heap.size≤g) (hold:∀ g,g<w.heap.size→(R k).1.ownBlock≠some g→w'.heap[g]? = w.heap[g]?):MemZ et es base b w' (updZ R k (v',n,xs)):=by
 refine ⟨λ k' => ?_,λ k1 k2 h12 g hg => ?_,λ k' hk' => ?_,h.hb,Nat.lt_of_lt_of_le h.lt hs⟩
 ·by_cases hk:k'=k
  ·subst hk;rw [updZ_same];exact hown
  ·rw [updZ_other R _ hk]
   exact ownsRow_keep (h.own k') λ g hg=>hold g (h.lts k' g hg).2 (λ e=>h.ne k' k hk g hg e)
 ·by_cases h1:k1=k
  ·subst h1
   rw [updZ_same] at hg
   rw [updZ_other R _ (Ne.symm h12)]
   intro e
   rcases hat g hg with hh | hh
   ·exact h.ne k1 k2 h12 g hh e
   ·have:=(h.lts k2 g e).2;omega
  ·rw [updZ_other R _ h1] at hg
   by_cases h2:k2=k
   ·subst h2
    rw [updZ_same]
    intro e
    rcases hat g e with hh | hh
    ·exact h.ne k1 k2 h12 g hg hh
    ·have:=(h.lts k1 g hg).2;omega
   ·rw [updZ_other R _ h2];exact h.ne k1 k2 h12 g hg
 ·by_cases hk:k'=k
  ·subst hk
   rw [updZ_same] at hk'
   rcases hat b hk' with hh | hh
   ·exact h.nb k' hh
   ·have:=h.lt;omega
  ·rw [updZ_other R _ hk] at hk';exact h.nb k' hk'
theorem MemZ.app [DecidableEq K] (h:MemZ et es base b w R) (k:K) {v':Value} {n:Nat} {xs:List Value} (ha:AppR base (et k) (es k) w (R k).1 n xs v' w'):MemZ et es base b w' (updZ R k (v',n,xs)) :=
 h.put k ha.own ha.grown.size (λ g hg=>by
  rcases ha.at_ with e | e
  ·rw [e] at hg;exact .inl hg
  ·rw [e] at hg;cases hg;exact .inr (Nat.le_refl _)) (λ g hg hn=>ha.grown.block g hg (Ne.symm hn))
theorem MemZ.appA [DecidableEq K] (h:MemZ et es base b w R) (k:K) {n m g cap:Nat} {xs:List Value} (ha:App base (et k) (es k) w (R k).1 n m xs g cap w'):MemZ et es base b w' (updZ R k (.slice (some ⟨g,0,none⟩) (n+m) cap,n+m,xs)) :=
 h.put k ha.own ha.grown.size (λ g' hg'=>by
  cases hg'
  rcases ha.at_ with e | e
  ·exact .inl e
  ·exact .inr (Nat.le_of_eq e.symm)) (λ g hg hn=>ha.grown.block g hg (Ne.symm hn))
end
theorem mexpr_one {bm n c b o:Nat} {l:List Sg} (hS:Sgs l) (hl:l.length=1) (hn:1≤n) (hn8:n≤8):MakeC bm n (.slice (some ⟨b,o,none⟩) 1 c) l 1:=λ w m hm hm8 hk hs=>by
 have:=mexpr_step (n:=n) 1 (Nat.le_refl _) (by omega) hS (by omega) hn8 (.inl hl) (.inl rfl) m hm hm8 hk (by rw [hl] at hs ⊢;exact hs)
 rw [hl] at this
 exact this
theorem mexpr_any {bm n c:Nat} {p:Option Addr} {l:List Sg} (hS:Sgs l) (hn:l.length≤n) (hn8:n≤8):∀ deep:Nat,1≤deep→deep≤1000→MakeC bm n (.slice p l.length c) l deep
 | 0,h,_=>absurd h (by omega)
 | deep+1,_,hd=>λ w m hm hm8 hk hs=>by
  obtain ⟨b,o,rfl⟩:=hs.sl (sigCells_at (List.getElem?_eq_getElem (show 0<l.length from hS.pos))).1
  refine mexpr_step (deep+1) (by omega) hd hS hn hn8 ?_ ?_ m hm hm8 hk hs
  ·by_cases h1:l.length=1
   ·exact .inl h1
   ·exact .inr (mexpr_one hS.one (by rw [List.length_take];have:=hS.pos;omega) (by have:=hS.pos;omega) hn8)
  ·by_cases h1:deep=0
   ·exact .inl (by omega)
   ·exact .inr (mexpr_any hS hn hn8 deep (by omega) (by omega))
end Go.Proofs.Ytlklleaocbnbcaa
