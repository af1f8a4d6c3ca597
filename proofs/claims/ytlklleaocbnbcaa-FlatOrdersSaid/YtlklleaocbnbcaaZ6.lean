import Derived.Test.YtlklleaocbnbcaaZ5
namespace Go.Proofs.Ytlklleaocbnbcaa
set_option linter.unusedVariables false
open Go.RowKit
theorem rexpr_all {base:Nat} {p:Option Addr} {c:Nat} {l:List Sg} {v1 v2 v3 v4 v5 v6:Value}:∀ {t:TL},t.wf l.length→AllT (ExC base p c l v1 v2 v3 v4 v5 v6) t
 | .nil,_=>trivial
 | .cons h a r,hw=>⟨rexpr_step ⟨hw.1,hw.2.1,hw.2.2.1,hw.2.2.2.1,hw.2.2.2.2.1,hw.2.2.2.2.2.1,hw.2.2.2.2.2.2.1,hw.2.2.2.2.2.2.2.1,trivial⟩ (rexpr_all hw.2.2.2.2.2.2.2.1),rexpr_all hw.2.2.2.2.2.2.2.2⟩
def OneC (base:Nat) (p:Option Addr) (c:Nat) (l:List Sg) (v1 v2 v3 v4 v5 v6:Value):Prop :=
 ∀ (g:Nat) (w:World) (u:Us) (V:Nat→Value) (h:SH) (b e:SL) (cs:List Value),h.wf l.length→UsM base g w u V→WU (sizes l) u→SgsM base w p c l→SR (λ k=>k<base) w (.cons h b e .nil) cs →
  Calls Try.prog 69 #[.agg #[.slice p l.length c,v1,v2,v3,v4,v5,v6],.agg #[usV g l.length],.agg cs.toArray] w (AddR base g l.length w V (addsP (sizes l) u h.rd))
theorem sr_one {A:Nat→Prop} {w:World} {h:SH} {b e:SL} {cs:List Value} (hs:SR A w (.cons h b e .nil) cs) :
  ∃ (op:Int) (sg:Bool) (pv:Option Addr) (cv:Nat) (vl:List Bool) (pa:Option Addr) (ca:Nat) (pi:Option Addr) (ci:Nat) (ic:List Value) (pb:Option Addr) (cb:Nat) (bc:List Value) (pe:Option Addr) (ce:Nat) (ec:List Value),
   cs = [.int .i64 (h.k:Nat),.int .i64 (h.s:Nat),.int .i64 (h.lo:Nat),.int .i64 (h.wd:Nat),.slice pi h.idx.len ci,.int .i64 (h.vh.k:Nat),.int .i64 op,.int .i64 (h.vh.w:Nat),.int .i64 (h.vh.s:Nat),.int .i64 (h.vh.lo:Nat),.bool sg,.slice pv vl.length cv,.slice pa h.va.len ca,.slice pb b.len cb,.slice pe e.len ce,.int .i64 (h.asr:Nat)] ∧
   TR A w (.cons h.vh h.va .nil) [.int .i64 (h.vh.k:Nat),.int .i64 op,.int .i64 (h.vh.w:Nat),.int .i64 (h.vh.s:Nat),.int .i64 (h.vh.lo:Nat),.bool sg,.slice pv vl.length cv,.slice pa h.va.len ca] ∧
   ROA A w (.slice pi h.idx.len ci) 8 h.idx.len ic∧TR A w h.idx ic∧ROA A w (.slice pb b.len cb) 16 b.len bc∧SR A w b bc∧ROA A w (.slice pe e.len ce) 16 e.len ec∧SR A w e ec:=by
 obtain ⟨idxv,ic,vc,bv,bc,ev,ec,cs',h1,h2,h3,h4,h5,h6,h7,h8,h9⟩:=hs
 have:cs' = []:=h9
 subst this
 obtain ⟨op,sg,val,vl,av,ac,rfl,hv,hvl,hr,ha⟩:=tr_one h2
 obtain ⟨pv,cv,rfl,hcv⟩:=hv.form
 obtain ⟨pa,ca,rfl,hca⟩:=hr.form
 obtain ⟨pi,ci,rfl,_⟩:=h3.form
 obtain ⟨pb,cb,rfl,_⟩:=h5.form
 obtain ⟨pe,ce,rfl,_⟩:=h7.form
 exact ⟨op,sg,pv,cv,vl,pa,ca,pi,ci,ic,pb,cb,bc,pe,ce,ec,by rw [h1,List.append_nil];rfl,h2,h3,h4,h5,h6,h7,h8⟩
theorem exc_call {base:Nat} {p:Option Addr} {c:Nat} {l:List Sg} {v1 v2 v3 v4 v5 v6:Value} {w0:World} (hs:SgsM base w0 p c l) {N g:Nat} (hN:l.length=N) (W:World) (u':Us) (V':Nat→Value) (h0:TH) (b0:TL) (cs':List Value) (h1:(TL.cons h0 b0 .nil).wf l.length) (h2:UsM base g W u' V') (h3:WU (sizes l) u') (h4:Below base w0 W) (h5:TR (λ k=>k<base) w0 (.cons h0 b0 .nil) cs') :
  Calls Try.prog 73 #[.agg #[.slice p N c,v1,v2,v3,v4,v5,v6],.agg #[usV g N],.agg cs'.toArray] W (AddR base g N W V' (addsP (sizes l) u' (atT h0 b0))):=by
 have:=(rexpr_all (base:=base) (p:=p) (c:=c) (l:=l) (v1:=v1) (v2:=v2) (v3:=v3) (v4:=v4) (v5:=v5) (v6:=v6) h1).1 g W u' V' cs' h2 h3 (hs.low h4) (h5.turn ER.stay λ k hk _=>⟨hk,h4.block k hk⟩)
 rw [hN] at this
 exact this
set_option maxRecDepth 100000 in
set_option maxHeartbeats 8000000 in
theorem one_any {base:Nat} {p:Option Addr} {c:Nat} {l:List Sg} {v1 v2 v3 v4 v5 v6:Value}:OneC base p c l v1 v2 v3 v4 v5 v6:=by
 intro g w u V h b e cs hwf hus hwu hs ht
 obtain ⟨op,sg,pv,cv,vl,pa,ca,pi,ci,ic,pb,cb,bc,pe,ce,ec,rfl,hvt,hir,hit,_,_,_,_⟩:=sr_one ht
 obtain ⟨sk,ss,slo,swd,sas,idx,⟨k,hw,s,lo⟩,va⟩:=h
 obtain ⟨N,hN⟩:∃ N,l.length=N:=⟨_,rfl⟩
 dsimp only at hvt hir hit ⊢
 have hex:=λ (W:World)=>exc_call (v1:=v1) (v2:=v2) (v3:=v3) (v4:=v4) (v5:=v5) (v6:=v6) (g:=g) hs hN W
 have HEx:=Lib.hid hex
 obtain ⟨R,hR⟩:∃ R,addsP (sizes l) u (SH.rd ⟨sk,ss,slo,swd,sas,idx,⟨k,hw,s,lo⟩,va⟩)=R:=⟨_,rfl⟩
 rw [hR,hN]
 have hR2:addsP (sizes l) (addsP (sizes l) u (atT ⟨k,hw,s,lo⟩ va)) (atL idx)=R:=by rw [←hR,←addsP_app];rfl
 have hN8:=hs.le
 rw [hN] at hN8
 obtain ⟨vn,hvn⟩:∃ n,vl.length=n:=⟨_,rfl⟩
 obtain ⟨an,han⟩:∃ n,va.len=n:=⟨_,rfl⟩
 obtain ⟨inn,hin⟩:∃ n,idx.len=n:=⟨_,rfl⟩
 obtain ⟨bn,hbn⟩:∃ n,b.len=n:=⟨_,rfl⟩
 obtain ⟨en,hen⟩:∃ n,e.len=n:=⟨_,rfl⟩
 rw [hvn,han] at hvt
 rw [hvn,han,hin,hbn,hen]
 have hb4:Below w.heap.size w ((((w.alloc (.cells #[.slice p N c,v1,v2,v3,v4,v5,v6] 31)).alloc (.cells #[usV g N] 86)).alloc (.cells #[.int .i64 (sk:Nat),.int .i64 (ss:Nat),.int .i64 (slo:Nat),.int .i64 (swd:Nat),.slice pi inn ci,.int .i64 (k:Nat),.int .i64 op,.int .i64 (hw:Nat),.int .i64 (s:Nat),.int .i64 (lo:Nat),.bool sg,.slice pv vn cv,.slice pa an ca,.slice pb bn cb,.slice pe en ce,.int .i64 (sas:Nat)] 81)).alloc (.cells #[.slice none 0 0] 86)):=Below.next (Below.next (Below.next (Below.new _ _) (Below.new _ _)) (Below.new _ _)) (Below.new _ _)
 have hx0:Blk ((((w.alloc (.cells #[.slice p N c,v1,v2,v3,v4,v5,v6] 31)).alloc (.cells #[usV g N] 86)).alloc (.cells #[.int .i64 (sk:Nat),.int .i64 (ss:Nat),.int .i64 (slo:Nat),.int .i64 (swd:Nat),.slice pi inn ci,.int .i64 (k:Nat),.int .i64 op,.int .i64 (hw:Nat),.int .i64 (s:Nat),.int .i64 (lo:Nat),.bool sg,.slice pv vn cv,.slice pa an ca,.slice pb bn cb,.slice pe en ce,.int .i64 (sas:Nat)] 81)).alloc (.cells #[.slice none 0 0] 86)) (w.heap.size) 31 [.slice p N c,v1,v2,v3,v4,v5,v6]:=by
  have this:=Blk.new (w:=w) 31 [.slice p N c,v1,v2,v3,v4,v5,v6]
  have this:=this.next (Below.new (w.alloc (.cells #[.slice p N c,v1,v2,v3,v4,v5,v6] 31)) (.cells #[usV g N] 86))
  have this:=this.next (Below.new ((w.alloc (.cells #[.slice p N c,v1,v2,v3,v4,v5,v6] 31)).alloc (.cells #[usV g N] 86)) (.cells #[.int .i64 (sk:Nat),.int .i64 (ss:Nat),.int .i64 (slo:Nat),.int .i64 (swd:Nat),.slice pi inn ci,.int .i64 (k:Nat),.int .i64 op,.int .i64 (hw:Nat),.int .i64 (s:Nat),.int .i64 (lo:Nat),.bool sg,.slice pv vn cv,.slice pa an ca,.slice pb bn cb,.slice pe en ce,.int .i64 (sas:Nat)] 81))
  have this:=this.next (Below.new (((w.alloc (.cells #[.slice p N c,v1,v2,v3,v4,v5,v6] 31)).alloc (.cells #[usV g N] 86)).alloc (.cells #[.int .i64 (sk:Nat),.int .i64 (ss:Nat),.int .i64 (slo:Nat),.int .i64 (swd:Nat),.slice pi inn ci,.int .i64 (k:Nat),.int .i64 op,.int .i64 (hw:Nat),.int .i64 (s:Nat),.int .i64 (lo:Nat),.bool sg,.slice pv vn cv,.slice pa an ca,.slice pb bn cb,.slice pe en ce,.int .i64 (sas:Nat)] 81)) (.cells #[.slice none 0 0] 86))
  exact this
 have hx1:Blk ((((w.alloc (.cells #[.slice p N c,v1,v2,v3,v4,v5,v6] 31)).alloc (.cells #[usV g N] 86)).alloc (.cells #[.int .i64 (sk:Nat),.int .i64 (ss:Nat),.int .i64 (slo:Nat),.int .i64 (swd:Nat),.slice pi inn ci,.int .i64 (k:Nat),.int .i64 op,.int .i64 (hw:Nat),.int .i64 (s:Nat),.int .i64 (lo:Nat),.bool sg,.slice pv vn cv,.slice pa an ca,.slice pb bn cb,.slice pe en ce,.int .i64 (sas:Nat)] 81)).alloc (.cells #[.slice none 0 0] 86)) (w.heap.size+1) 86 [usV g N]:=by
  have this:=Blk.new (w:=(w.alloc (.cells #[.slice p N c,v1,v2,v3,v4,v5,v6] 31))) 86 [usV g N]
  have this:=this.next (Below.new ((w.alloc (.cells #[.slice p N c,v1,v2,v3,v4,v5,v6] 31)).alloc (.cells #[usV g N] 86)) (.cells #[.int .i64 (sk:Nat),.int .i64 (ss:Nat),.int .i64 (slo:Nat),.int .i64 (swd:Nat),.slice pi inn ci,.int .i64 (k:Nat),.int .i64 op,.int .i64 (hw:Nat),.int .i64 (s:Nat),.int .i64 (lo:Nat),.bool sg,.slice pv vn cv,.slice pa an ca,.slice pb bn cb,.slice pe en ce,.int .i64 (sas:Nat)] 81))
  have this:=this.next (Below.new (((w.alloc (.cells #[.slice p N c,v1,v2,v3,v4,v5,v6] 31)).alloc (.cells #[usV g N] 86)).alloc (.cells #[.int .i64 (sk:Nat),.int .i64 (ss:Nat),.int .i64 (slo:Nat),.int .i64 (swd:Nat),.slice pi inn ci,.int .i64 (k:Nat),.int .i64 op,.int .i64 (hw:Nat),.int .i64 (s:Nat),.int .i64 (lo:Nat),.bool sg,.slice pv vn cv,.slice pa an ca,.slice pb bn cb,.slice pe en ce,.int .i64 (sas:Nat)] 81)) (.cells #[.slice none 0 0] 86))
  rw [World.size_alloc] at this
  exact this
 have hx2:Blk ((((w.alloc (.cells #[.slice p N c,v1,v2,v3,v4,v5,v6] 31)).alloc (.cells #[usV g N] 86)).alloc (.cells #[.int .i64 (sk:Nat),.int .i64 (ss:Nat),.int .i64 (slo:Nat),.int .i64 (swd:Nat),.slice pi inn ci,.int .i64 (k:Nat),.int .i64 op,.int .i64 (hw:Nat),.int .i64 (s:Nat),.int .i64 (lo:Nat),.bool sg,.slice pv vn cv,.slice pa an ca,.slice pb bn cb,.slice pe en ce,.int .i64 (sas:Nat)] 81)).alloc (.cells #[.slice none 0 0] 86)) (w.heap.size+1+1) 81 [.int .i64 (sk:Nat),.int .i64 (ss:Nat),.int .i64 (slo:Nat),.int .i64 (swd:Nat),.slice pi inn ci,.int .i64 (k:Nat),.int .i64 op,.int .i64 (hw:Nat),.int .i64 (s:Nat),.int .i64 (lo:Nat),.bool sg,.slice pv vn cv,.slice pa an ca,.slice pb bn cb,.slice pe en ce,.int .i64 (sas:Nat)]:=by
  have this:=Blk.new (w:=((w.alloc (.cells #[.slice p N c,v1,v2,v3,v4,v5,v6] 31)).alloc (.cells #[usV g N] 86))) 81 [.int .i64 (sk:Nat),.int .i64 (ss:Nat),.int .i64 (slo:Nat),.int .i64 (swd:Nat),.slice pi inn ci,.int .i64 (k:Nat),.int .i64 op,.int .i64 (hw:Nat),.int .i64 (s:Nat),.int .i64 (lo:Nat),.bool sg,.slice pv vn cv,.slice pa an ca,.slice pb bn cb,.slice pe en ce,.int .i64 (sas:Nat)]
  have this:=this.next (Below.new (((w.alloc (.cells #[.slice p N c,v1,v2,v3,v4,v5,v6] 31)).alloc (.cells #[usV g N] 86)).alloc (.cells #[.int .i64 (sk:Nat),.int .i64 (ss:Nat),.int .i64 (slo:Nat),.int .i64 (swd:Nat),.slice pi inn ci,.int .i64 (k:Nat),.int .i64 op,.int .i64 (hw:Nat),.int .i64 (s:Nat),.int .i64 (lo:Nat),.bool sg,.slice pv vn cv,.slice pa an ca,.slice pb bn cb,.slice pe en ce,.int .i64 (sas:Nat)] 81)) (.cells #[.slice none 0 0] 86))
  rw [World.size_alloc,World.size_alloc] at this
  exact this
 have hx3:Blk ((((w.alloc (.cells #[.slice p N c,v1,v2,v3,v4,v5,v6] 31)).alloc (.cells #[usV g N] 86)).alloc (.cells #[.int .i64 (sk:Nat),.int .i64 (ss:Nat),.int .i64 (slo:Nat),.int .i64 (swd:Nat),.slice pi inn ci,.int .i64 (k:Nat),.int .i64 op,.int .i64 (hw:Nat),.int .i64 (s:Nat),.int .i64 (lo:Nat),.bool sg,.slice pv vn cv,.slice pa an ca,.slice pb bn cb,.slice pe en ce,.int .i64 (sas:Nat)] 81)).alloc (.cells #[.slice none 0 0] 86)) (w.heap.size+1+1+1) 86 [.slice none 0 0]:=by
  have this:=Blk.new (w:=(((w.alloc (.cells #[.slice p N c,v1,v2,v3,v4,v5,v6] 31)).alloc (.cells #[usV g N] 86)).alloc (.cells #[.int .i64 (sk:Nat),.int .i64 (ss:Nat),.int .i64 (slo:Nat),.int .i64 (swd:Nat),.slice pi inn ci,.int .i64 (k:Nat),.int .i64 op,.int .i64 (hw:Nat),.int .i64 (s:Nat),.int .i64 (lo:Nat),.bool sg,.slice pv vn cv,.slice pa an ca,.slice pb bn cb,.slice pe en ce,.int .i64 (sas:Nat)] 81))) 86 [.slice none 0 0]
  rw [World.size_alloc,World.size_alloc,World.size_alloc] at this
  exact this
 have hX:ExS base g (w.heap.size+1) ((((w.alloc (.cells #[.slice p N c,v1,v2,v3,v4,v5,v6] 31)).alloc (.cells #[usV g N] 86)).alloc (.cells #[.int .i64 (sk:Nat),.int .i64 (ss:Nat),.int .i64 (slo:Nat),.int .i64 (swd:Nat),.slice pi inn ci,.int .i64 (k:Nat),.int .i64 op,.int .i64 (hw:Nat),.int .i64 (s:Nat),.int .i64 (lo:Nat),.bool sg,.slice pv vn cv,.slice pa an ca,.slice pb bn cb,.slice pe en ce,.int .i64 (sas:Nat)] 81)).alloc (.cells #[.slice none 0 0] 86)) ((((w.alloc (.cells #[.slice p N c,v1,v2,v3,v4,v5,v6] 31)).alloc (.cells #[usV g N] 86)).alloc (.cells #[.int .i64 (sk:Nat),.int .i64 (ss:Nat),.int .i64 (slo:Nat),.int .i64 (swd:Nat),.slice pi inn ci,.int .i64 (k:Nat),.int .i64 op,.int .i64 (hw:Nat),.int .i64 (s:Nat),.int .i64 (lo:Nat),.bool sg,.slice pv vn cv,.slice pa an ca,.slice pb bn cb,.slice pe en ce,.int .i64 (sas:Nat)] 81)).alloc (.cells #[.slice none 0 0] 86)) V u V N:=ExS.start hus hb4 hx1 (by omega)
 have hf0:∀ b,FV g V b→base≤b∧b<w.heap.size:=hus.flt
 have hsz:=hus.size
 have H:=Lib.hid (And.intro hwf (And.intro hwu (And.intro hN8 (And.intro hN (And.intro hin hsz)))))
 have HT:=Lib.hid (And.intro hvt (And.intro hir hit))
 have HB:=Lib.hid (And.intro hx0 (And.intro hx2 (And.intro hx3 (And.intro hb4 hX))))
 have HF:=Lib.hid hf0
 have HR:=Lib.hid hR2
 clear hus hwf hwu hs ht hvt hir hit hN hN8 hx0 hx1 hx2 hx3 hX hf0 hsz hR hR2 hb4 hex hvn han hin hbn hen
 go_enter Try.func69,Try.ntmps69
 go_upto_region 1 with fail
 generalize hW4:((((w.alloc (.cells #[.slice p N c,v1,v2,v3,v4,v5,v6] 31)).alloc (.cells #[usV g N] 86)).alloc (.cells #[.int .i64 (sk:Nat),.int .i64 (ss:Nat),.int .i64 (slo:Nat),.int .i64 (swd:Nat),.slice pi inn ci,.int .i64 (k:Nat),.int .i64 op,.int .i64 (hw:Nat),.int .i64 (s:Nat),.int .i64 (lo:Nat),.bool sg,.slice pv vn cv,.slice pa an ca,.slice pb bn cb,.slice pe en ce,.int .i64 (sas:Nat)] 81)).alloc (.cells #[.slice none 0 0] 86))=w4 at *
 clear hW4
 have d0:=HB.out.1.cell (i:=0) rfl
 have d1:=HB.out.1.cell (i:=1) rfl
 have d2:=HB.out.1.cell (i:=2) rfl
 have d3:=HB.out.1.cell (i:=3) rfl
 have d4:=HB.out.1.cell (i:=4) rfl
 have d5:=HB.out.1.cell (i:=5) rfl
 have d6:=HB.out.1.cell (i:=6) rfl
 have u0:=HB.out.2.2.2.2.box.cell (i:=0) rfl
 have s5:=HB.out.2.1.cell (i:=5) rfl
 have s6:=HB.out.2.1.cell (i:=6) rfl
 have s7:=HB.out.2.1.cell (i:=7) rfl
 have s8:=HB.out.2.1.cell (i:=8) rfl
 have s9:=HB.out.2.1.cell (i:=9) rfl
 have s10:=HB.out.2.1.cell (i:=10) rfl
 have s11:=HB.out.2.1.cell (i:=11) rfl
 have s12:=HB.out.2.1.cell (i:=12) rfl
 go_wp2_with fail
 refine (HEx.out w4 u V ⟨k,hw,s,lo⟩ va _ H.out.1.2.2.2.2.2.2.2 HB.out.2.2.2.2.us H.out.2.1 (HB.out.2.2.2.1.mono H.out.2.2.2.2.2) HT.out.1).mono ?_;rintro e w6 ⟨rfl,V6,hu6,hp6⟩
 have HX6:=Lib.hid (HB.out.2.2.2.2.call hu6 hp6)
 clear hu6 hp6 u0 d0 d1 d2 d3 d4 d5 d6 s5 s6 s7 s8 s9 s10 s11 s12
 have u0:=HX6.out.box.cell (i:=0) rfl
 have u1:=HX6.out.box.frz 0
 go_upto_region 2 with fail
 have HX7:=Lib.hid HX6.out.store
 generalize w6.setCell ⟨w.heap.size+1,0,none⟩ (.slice (some ⟨g,0,none⟩) N N)=w7 at *
 clear u0 u1 HX6
 obtain ⟨U1,hU1⟩:∃ U1,addsP (sizes l) u (atT ⟨k,hw,s,lo⟩ va)=U1:=⟨_,rfl⟩
 have hwu1:WU (sizes l) U1:=by rw [←hU1];exact WU.adds _ H.out.2.1
 rw [hU1] at HX7 HR
 have HWu1:=Lib.hid hwu1
 clear hU1 hwu1
 go_wp2_with fail
 go_loopw [7] (λ iv wr=>∃ (i:Nat) (r:TL) (u':Us) (V':Nat→Value),iv = .int .i64 i∧i+r.len=inn∧TR (λ k=>k<base) w r (ic.drop (i*8))∧r.wf l.length∧WU (sizes l) u'∧ExS base g (w.heap.size+1) w4 wr V u' V' N∧addsP (sizes l) u' (atL r)=R) (λ iv _=>inn-(intOf iv).toNat)
 case atStart=>exact ⟨0,idx,U1,V6,rfl,by rw [Nat.zero_add];exact H.out.2.2.2.2.1,by simpa using HT.out.2.2,H.out.1.2.2.2.2.2.2.1,HWu1.out,HX7.out,HR.out⟩
 case round =>
  obtain ⟨i,r,u',V',rfl,hil,hTr,hrw,hWu,hXr,hRr⟩:=hrel
  have s4:=(hXr.old HB.out.2.1 (λ e=>by have:=(HF.out _ e).2;omega) (by omega)).cell (i:=4) rfl
  have hlow:=hXr.low (λ b hb=>(HF.out b hb).1) (by have:=H.out.2.2.2.2.2;omega) (Nat.le_trans H.out.2.2.2.2.2 HB.out.2.2.2.1.size)
  have hbw:=(HB.out.2.2.2.1.mono H.out.2.2.2.2.2).trans hlow
  have HL:=Lib.hid (And.intro hil (And.intro hWu (And.intro hXr (And.intro hRr hbw))))
  by_cases hlt:i<inn
  ·obtain ⟨h0,b0,r0,rfl⟩:∃ h0 b0 r0,r = .cons h0 b0 r0:=by
    cases r with
    | nil=>simp only [TL.len] at hil;omega
    | cons h0 b0 r0=>exact ⟨h0,b0,r0,rfl⟩
   obtain ⟨op0,sg0,val0,vl0,av0,bc0,hat,hv0,hr0,_,hone,hrest⟩:=tr_at hTr
   obtain ⟨pv0,cv0,rfl,_⟩:=hv0.form
   obtain ⟨pa0,ca0,rfl,_⟩:=hr0.form
   have hra:RO wr (.slice pi inn ci) 8 inn ic:=by
    have:=(HT.out.2.1.turn (A':=λ k=>k<base) (w':=wr) λ k hk _=>⟨hk,HL.out.2.2.2.2.block k hk⟩).ro
    rw [H.out.2.2.2.2.1] at this
    exact this
   obtain ⟨bb,o,rfl⟩:=hra.sl (hat 0 (by omega))
   have c0:=hra.cell (hat 0 (by omega))
   have c1:=hra.cell (hat 1 (by omega))
   have c2:=hra.cell (hat 2 (by omega))
   have c3:=hra.cell (hat 3 (by omega))
   have c4:=hra.cell (hat 4 (by omega))
   have c5:=hra.cell (hat 5 (by omega))
   have c6:=hra.cell (hat 6 (by omega))
   have c7:=hra.cell (hat 7 (by omega))
   rw [←Nat.add_assoc] at c1 c2 c3 c4 c5 c6 c7
   rw [Nat.add_zero] at c0
   obtain ⟨k0,hw0,s0,lo0⟩:=h0
   dsimp only [tcells] at c0 c1 c2 c3 c4 c5 c6 c7
   have d0:=(hXr.old HB.out.1 (λ e=>by have:=(HF.out _ e).2;omega) (by omega)).cell (i:=0) rfl
   have d1:=(hXr.old HB.out.1 (λ e=>by have:=(HF.out _ e).2;omega) (by omega)).cell (i:=1) rfl
   have d2:=(hXr.old HB.out.1 (λ e=>by have:=(HF.out _ e).2;omega) (by omega)).cell (i:=2) rfl
   have d3:=(hXr.old HB.out.1 (λ e=>by have:=(HF.out _ e).2;omega) (by omega)).cell (i:=3) rfl
   have d4:=(hXr.old HB.out.1 (λ e=>by have:=(HF.out _ e).2;omega) (by omega)).cell (i:=4) rfl
   have d5:=(hXr.old HB.out.1 (λ e=>by have:=(HF.out _ e).2;omega) (by omega)).cell (i:=5) rfl
   have d6:=(hXr.old HB.out.1 (λ e=>by have:=(HF.out _ e).2;omega) (by omega)).cell (i:=6) rfl
   have u0:=hXr.box.cell (i:=0) rfl
   have hii:(i:Int)<(inn:Int):=by omega
   have hi0:(0:Int)≤(i:Int):=by omega
   have hiw:IntKind.i64.wrap ((i:Int)+1)=((i+1:Nat):Int):=by rw [i64_of (by have hib:idx.len≤1000:=H.out.1.2.2.2.2.2.1;have:=H.out.2.2.2.2.1;omega)];omega
   have HE0:=Lib.hid (And.intro hrw (And.intro hone (And.intro hrest hlt)))
   clear hat hv0 hr0 hone hrest hra hXr hTr hrw hWu hRr hil hlow hbw hlt
   go_upto_region 5 with fail
   refine wp_region_still_tail 8 (by kernel_rfl) (by kernel_rfl) ?_
   simp only [List.take_succ_cons,List.take_zero,List.drop_succ_cons,List.drop_zero]
   change wpStill _ _ wr.drew (λ a'=>wpList _ _ _ _ a' wr.drew) _ _
   have HX5:Hid (ExS base g (w.heap.size+1) w4 wr.drew V u' V' N∧Below base w wr.drew):=Lib.hid ⟨HL.out.2.2.1.below (Below.refl _ _).drew,HL.out.2.2.2.2.trans (Below.refl _ _).drew⟩
   replace c0:wr.drew.cell? _=_:=c0
   replace c1:wr.drew.cell? _=_:=c1
   replace c2:wr.drew.cell? _=_:=c2
   replace c3:wr.drew.cell? _=_:=c3
   replace c4:wr.drew.cell? _=_:=c4
   replace c5:wr.drew.cell? _=_:=c5
   replace c6:wr.drew.cell? _=_:=c6
   replace c7:wr.drew.cell? _=_:=c7
   replace d0:wr.drew.cell? _=_:=d0
   replace d1:wr.drew.cell? _=_:=d1
   replace d2:wr.drew.cell? _=_:=d2
   replace d3:wr.drew.cell? _=_:=d3
   replace d4:wr.drew.cell? _=_:=d4
   replace d5:wr.drew.cell? _=_:=d5
   replace d6:wr.drew.cell? _=_:=d6
   replace u0:wr.drew.cell? _=_:=u0
   replace s4:wr.drew.cell? _=_:=s4
   generalize wr.drew=w5 at *
   repeat still_step
   try refine wpStill_nil ?_
   clear c0 c1 c2 c3 c4 c5 c6 c7 d0 d1 d2 d3 d4 d5 d6 u0 s4
   go_wp2_with fail
   refine (HEx.out w5 u' V' _ b0 _ ⟨HE0.out.1.1,HE0.out.1.2.1,HE0.out.1.2.2.1,HE0.out.1.2.2.2.1,HE0.out.1.2.2.2.2.1,HE0.out.1.2.2.2.2.2.1,HE0.out.1.2.2.2.2.2.2.1,HE0.out.1.2.2.2.2.2.2.2.1,trivial⟩ HX5.out.1.us HL.out.2.1 HX5.out.2 HE0.out.2.1).mono ?_;rintro e w6 ⟨rfl,V8,hu8,hp8⟩
   have HX8:=Lib.hid (HX5.out.1.call hu8 hp8)
   clear hu8 hp8
   have u0:=HX8.out.box.cell (i:=0) rfl
   have u1:=HX8.out.box.frz 0
   go_wp2_with fail
   go_roundw
   case rel =>
    refine ⟨i+1,r0,_,V8,by go_num,?_,HE0.out.2.2.1,HE0.out.1.2.2.2.2.2.2.2.2,WU.adds _ HL.out.2.1,HX8.out.store,?_⟩
    ·have:=HL.out.1;simp only [TL.len] at this;omega
    ·have:=HL.out.2.2.2.1
     rw [atL,addsP_app] at this
     exact this
   case measure=>simp [intOf];have:=HE0.out.2.2.2;omega
  ·have hie:i=inn:=by omega
   have hrn:r = .nil:=by
    cases r with
    | nil=>rfl
    | cons h0 b0 r0=>simp only [TL.len] at hil;omega
   subst hrn
   have hfu:u'=R:=by simpa [atL,addsP] using hRr
   subst hfu
   have hii:¬(i:Int)<(inn:Int):=by omega
   have HX:=Lib.hid hXr
   have HBr:Hid (Blk wr (w.heap.size+1+1+1) 86 [.slice none 0 0]):=Lib.hid (hXr.old HB.out.2.2.1 (λ e=>by have:=(HF.out _ e).2;omega) (by omega))
   have u0:=hXr.box.cell (i:=0) rfl
   have rz0:=HBr.out.cell (i:=0) rfl
   have rz1:=HBr.out.frz 0
   clear hTr hrw hWu hRr hlow hbw hlt hie hil hXr
   go_wp2_with fail
   have hfn:=HX.out.fin HB.out.2.2.2.1 (λ b hb=>(HF.out b hb).2) (by omega) (br:=w.heap.size+1+1+1) (by omega) HB.out.2.2.1.lt (by omega) (.slice (some ⟨g,0,none⟩) N N)
   have e0:(wr.setCell ⟨w.heap.size+1+1+1,0,none⟩ (.slice (some ⟨g,0,none⟩) N N)).cell? ⟨w.heap.size+1+1+1,0,none⟩=some (.slice (some ⟨g,0,none⟩) N N):=(HBr.out.set 0 _).cell (i:=0) rfl
   refine bodyPost_ret (v := .agg #[usV g N]) (by simp [results,Try.results69,go_sem,e0]) rfl ⟨rfl,?_⟩
   exact hfn
end Go.Proofs.Ytlklleaocbnbcaa
