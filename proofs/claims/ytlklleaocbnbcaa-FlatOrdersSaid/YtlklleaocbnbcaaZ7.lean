import Derived.Test.YtlklleaocbnbcaaZ6
namespace Go.Proofs.Ytlklleaocbnbcaa
set_option linter.unusedVariables false
open Go.RowKit
def AllS (P:SH→SL→SL→Prop):SL→Prop
 | .nil=>True
 | .cons h b e r=>P h b e∧AllS P r
def RdC (base:Nat) (p:Option Addr) (c:Nat) (l:List Sg) (v1 v2 v3 v4 v5 v6:Value) (t:SL):Prop :=
 ∀ (g:Nat) (w:World) (u:Us) (V:Nat→Value) (pl:Option Addr) (cl:Nat) (sc:List Value),UsM base g w u V→WU (sizes l) u→SgsM base w p c l→ROA (λ k=>k<base) w (.slice pl t.len cl) 16 t.len sc→SR (λ k=>k<base) w t sc →
  Calls Try.prog 58 #[.agg #[.slice p l.length c,v1,v2,v3,v4,v5,v6],.agg #[usV g l.length],.slice pl t.len cl] w (AddR base g l.length w V (addsP (sizes l) u ((flatS t).flatMap SH.rd)))
theorem sr_at {A:Nat→Prop} {w:World} {h:SH} {b e r:SL} {sc:List Value} {i:Nat} (ht:SR A w (.cons h b e r) (sc.drop (i*16))) :
  ∃ cs:List Value,cs.length=16∧(∀ j,j<16→sc[i*16+j]? = cs[j]?)∧SR A w (.cons h b e .nil) cs∧SR A w r (sc.drop ((i+1)*16)):=by
 have hlen:=ht
 obtain ⟨idxv,ic,vc,bv,bc,ev,ec,cs',h1,h2,h3,h4,h5,h6,h7,h8,h9⟩:=ht
 have hone:SR A w (.cons h b e .nil) (scells 0 h idxv vc bv ev):=⟨idxv,ic,vc,bv,bc,ev,ec, [],(List.append_nil _).symm,h2,h3,h4,h5,h6,h7,h8,rfl⟩
 have hl:(scells 0 h idxv vc bv ev).length=16:=by have:=hone.len;simpa [SL.len] using this
 refine ⟨_,hl,λ j hj => ?_,hone,?_⟩
 ·rw [←List.getElem?_drop,h1,List.getElem?_append_left (by rw [hl];exact hj)]
 ·rw [Nat.add_mul,Nat.one_mul,←List.drop_drop,h1,List.drop_append_of_le_length (by rw [hl];exact Nat.le_refl _),List.drop_of_length_le (by rw [hl];exact Nat.le_refl _),List.nil_append]
  exact h9
set_option maxRecDepth 100000 in
set_option maxHeartbeats 8000000 in
theorem rd_step {base:Nat} {p:Option Addr} {c:Nat} {l:List Sg} {v1 v2 v3 v4 v5 v6:Value} {t:SL} (htw:t.wf l.length) (htl:t.len≤1000000) (ih:AllS (λ _ b e=>RdC base p c l v1 v2 v3 v4 v5 v6 b∧RdC base p c l v1 v2 v3 v4 v5 v6 e) t):RdC base p c l v1 v2 v3 v4 v5 v6 t:=by
 intro g w u V pl cl sc hus hwu hs hrl hsr
 obtain ⟨N,hN⟩:∃ N,l.length=N:=⟨_,rfl⟩
 have hone:∀ (W:World) (u':Us) (V':Nat→Value) (h0:SH) (b0 e0:SL) (cs':List Value),h0.wf l.length→UsM base g W u' V'→WU (sizes l) u'→Below base w W→SR (λ k=>k<base) w (.cons h0 b0 e0 .nil) cs'→Calls Try.prog 69 #[.agg #[.slice p N c,v1,v2,v3,v4,v5,v6],.agg #[usV g N],.agg cs'.toArray] W (AddR base g N W V' (addsP (sizes l) u' h0.rd)):=λ W u' V' h0 b0 e0 cs' h1 h2 h3 h4 h5=>by
  have:=one_any (base:=base) (p:=p) (c:=c) (l:=l) (v1:=v1) (v2:=v2) (v3:=v3) (v4:=v4) (v5:=v5) (v6:=v6) g W u' V' h0 b0 e0 cs' h1 h2 h3 (hs.low h4) (h5.turn ER.stay λ k hk _=>⟨hk,h4.block k hk⟩)
  rw [hN] at this
  exact this
 have hrec:∀ (W:World) (u':Us) (V':Nat→Value) (t0:SL) (pl':Option Addr) (cl':Nat) (sc':List Value),RdC base p c l v1 v2 v3 v4 v5 v6 t0→UsM base g W u' V'→WU (sizes l) u'→Below base w W→ROA (λ k=>k<base) w (.slice pl' t0.len cl') 16 t0.len sc'→SR (λ k=>k<base) w t0 sc'→Calls Try.prog 58 #[.agg #[.slice p N c,v1,v2,v3,v4,v5,v6],.agg #[usV g N],.slice pl' t0.len cl'] W (AddR base g N W V' (addsP (sizes l) u' ((flatS t0).flatMap SH.rd))):=λ W u' V' t0 pl' cl' sc' h1 h2 h3 h4 h5 h6=>by
  have:=h1 g W u' V' pl' cl' sc' h2 h3 (hs.low h4) (h5.turn λ k hk _=>⟨hk,h4.block k hk⟩) (h6.turn ER.stay λ k hk _=>⟨hk,h4.block k hk⟩)
  rw [hN] at this
  exact this
 have HOne:=Lib.hid hone
 have HRec:=Lib.hid hrec
 obtain ⟨R,hR⟩:∃ R,addsP (sizes l) u ((flatS t).flatMap SH.rd)=R:=⟨_,rfl⟩
 rw [hR,hN]
 have hN8:=hs.le
 rw [hN] at hN8
 obtain ⟨ln,hln⟩:∃ n,t.len=n:=⟨_,rfl⟩
 rw [hln] at hrl htl ⊢
 have hb4:Below w.heap.size w (((w.alloc (.cells #[.slice p N c,v1,v2,v3,v4,v5,v6] 31)).alloc (.cells #[usV g N] 86)).alloc (.cells #[.slice none 0 0] 86)):=Below.next (Below.next (Below.new _ _) (Below.new _ _)) (Below.new _ _)
 have hx0:Blk (((w.alloc (.cells #[.slice p N c,v1,v2,v3,v4,v5,v6] 31)).alloc (.cells #[usV g N] 86)).alloc (.cells #[.slice none 0 0] 86)) (w.heap.size) 31 [.slice p N c,v1,v2,v3,v4,v5,v6]:=by
  have this:=Blk.new (w:=w) 31 [.slice p N c,v1,v2,v3,v4,v5,v6]
  have this:=this.next (Below.new (w.alloc (.cells #[.slice p N c,v1,v2,v3,v4,v5,v6] 31)) (.cells #[usV g N] 86))
  have this:=this.next (Below.new ((w.alloc (.cells #[.slice p N c,v1,v2,v3,v4,v5,v6] 31)).alloc (.cells #[usV g N] 86)) (.cells #[.slice none 0 0] 86))
  exact this
 have hx1:Blk (((w.alloc (.cells #[.slice p N c,v1,v2,v3,v4,v5,v6] 31)).alloc (.cells #[usV g N] 86)).alloc (.cells #[.slice none 0 0] 86)) (w.heap.size+1) 86 [usV g N]:=by
  have this:=Blk.new (w:=(w.alloc (.cells #[.slice p N c,v1,v2,v3,v4,v5,v6] 31))) 86 [usV g N]
  have this:=this.next (Below.new ((w.alloc (.cells #[.slice p N c,v1,v2,v3,v4,v5,v6] 31)).alloc (.cells #[usV g N] 86)) (.cells #[.slice none 0 0] 86))
  rw [World.size_alloc] at this
  exact this
 have hx2:Blk (((w.alloc (.cells #[.slice p N c,v1,v2,v3,v4,v5,v6] 31)).alloc (.cells #[usV g N] 86)).alloc (.cells #[.slice none 0 0] 86)) (w.heap.size+1+1) 86 [.slice none 0 0]:=by
  have this:=Blk.new (w:=((w.alloc (.cells #[.slice p N c,v1,v2,v3,v4,v5,v6] 31)).alloc (.cells #[usV g N] 86))) 86 [.slice none 0 0]
  rw [World.size_alloc,World.size_alloc] at this
  exact this
 have hX:ExS base g (w.heap.size+1) (((w.alloc (.cells #[.slice p N c,v1,v2,v3,v4,v5,v6] 31)).alloc (.cells #[usV g N] 86)).alloc (.cells #[.slice none 0 0] 86)) (((w.alloc (.cells #[.slice p N c,v1,v2,v3,v4,v5,v6] 31)).alloc (.cells #[usV g N] 86)).alloc (.cells #[.slice none 0 0] 86)) V u V N:=ExS.start hus hb4 hx1 (by omega)
 have hf0:∀ b,FV g V b→base≤b∧b<w.heap.size:=hus.flt
 have hsz:=hus.size
 have H:=Lib.hid (And.intro htw (And.intro hwu (And.intro hN8 (And.intro hN (And.intro hln (And.intro htl hsz))))))
 have HT:=Lib.hid (And.intro hrl hsr)
 have HI:=Lib.hid ih
 have HB:=Lib.hid (And.intro hx0 (And.intro hx2 (And.intro hb4 hX)))
 have HF:=Lib.hid hf0
 have HR:=Lib.hid hR
 clear hus htw hwu hs hrl hsr hN hN8 hx0 hx1 hx2 hX hf0 hsz hR hb4 hone hrec hln htl ih
 go_enter Try.func58,Try.ntmps58
 go_upto_region 1 with fail
 generalize hW4:(((w.alloc (.cells #[.slice p N c,v1,v2,v3,v4,v5,v6] 31)).alloc (.cells #[usV g N] 86)).alloc (.cells #[.slice none 0 0] 86))=w4 at *
 clear hW4
 go_wp2_with fail
 go_loopw [7] (λ iv wr=>∃ (i:Nat) (r:SL) (u':Us) (V':Nat→Value),iv = .int .i64 i∧i+r.len=ln∧SR (λ k=>k<base) w r (sc.drop (i*16))∧AllS (λ _ b e=>RdC base p c l v1 v2 v3 v4 v5 v6 b∧RdC base p c l v1 v2 v3 v4 v5 v6 e) r∧r.wf l.length∧WU (sizes l) u'∧ExS base g (w.heap.size+1) w4 wr V u' V' N∧addsP (sizes l) u' ((flatS r).flatMap SH.rd)=R) (λ iv _=>ln-(intOf iv).toNat)
 case atStart=>exact ⟨0,t,u,V,rfl,by rw [Nat.zero_add];exact H.out.2.2.2.2.1,by simpa using HT.out.2,HI.out,H.out.1,H.out.2.1,HB.out.2.2.2,HR.out⟩
 case round =>
  obtain ⟨i,r,u',V',rfl,hil,hTr,hAl,hrw,hWu,hXr,hRr⟩:=hrel
  have hlow:=hXr.low (λ b hb=>(HF.out b hb).1) (by have:=H.out.2.2.2.2.2.2;omega) (Nat.le_trans H.out.2.2.2.2.2.2 HB.out.2.2.1.size)
  have hbw:=(HB.out.2.2.1.mono H.out.2.2.2.2.2.2).trans hlow
  have HL:=Lib.hid (And.intro hil (And.intro hWu (And.intro hXr (And.intro hRr hbw))))
  by_cases hlt:i<ln
  ·obtain ⟨h0,b0,e0,r0,rfl⟩:∃ h0 b0 e0 r0,r = .cons h0 b0 e0 r0:=by
    cases r with
    | nil=>simp only [SL.len] at hil;omega
    | cons h0 b0 e0 r0=>exact ⟨h0,b0,e0,r0,rfl⟩
   obtain ⟨cs0,hcl,hat,hone,hrest⟩:=sr_at hTr
   obtain ⟨op,sg,pv,cv,vl,pa,ca,pi,ci,ic,pb,cb,bc,pe,ce,ec,rfl,_,_,_,hbr,hbs,her,hes⟩:=sr_one hone
   have hra:∀ W,Below base w W→RO W (.slice pl ln cl) 16 ln sc:=λ W hb=>(HT.out.1.turn (A':=λ k=>k<base) (w':=W) λ k hk _=>⟨hk,hb.block k hk⟩).ro
   obtain ⟨bb,o,rfl⟩:=(hra wr HL.out.2.2.2.2).sl (hat 0 (by omega))
   have HRa:=Lib.hid hra
   have HAt:=Lib.hid hat
   have HBd:=Lib.hid (And.intro hbr (And.intro hbs (And.intro her hes)))
   obtain ⟨sk,ss,slo,swd,sas,idx,⟨k,hw,s,lo⟩,va⟩:=h0
   have hii:(i:Int)<(ln:Int):=by omega
   have hi0:(0:Int)≤(i:Int):=by omega
   have hiw:IntKind.i64.wrap ((i:Int)+1)=((i+1:Nat):Int):=by rw [i64_of (by have:=H.out.2.2.2.2.2.1;omega)];omega
   have HE0:=Lib.hid (And.intro hAl (And.intro hrw (And.intro hone (And.intro hrest hlt))))
   have HX5:Hid (ExS base g (w.heap.size+1) w4 wr V u' V' N∧Below base w wr):=Lib.hid ⟨hXr,hbw⟩
   clear hat hcl hone hrest hra hXr hTr hAl hrw hWu hRr hil hlow hbw hlt hbr hbs her hes
   have d0:=(HX5.out.1.old HB.out.1 (λ e=>by have:=(HF.out _ e).2;omega) (by omega)).cell (i:=0) rfl
   have d1:=(HX5.out.1.old HB.out.1 (λ e=>by have:=(HF.out _ e).2;omega) (by omega)).cell (i:=1) rfl
   have d2:=(HX5.out.1.old HB.out.1 (λ e=>by have:=(HF.out _ e).2;omega) (by omega)).cell (i:=2) rfl
   have d3:=(HX5.out.1.old HB.out.1 (λ e=>by have:=(HF.out _ e).2;omega) (by omega)).cell (i:=3) rfl
   have d4:=(HX5.out.1.old HB.out.1 (λ e=>by have:=(HF.out _ e).2;omega) (by omega)).cell (i:=4) rfl
   have d5:=(HX5.out.1.old HB.out.1 (λ e=>by have:=(HF.out _ e).2;omega) (by omega)).cell (i:=5) rfl
   have d6:=(HX5.out.1.old HB.out.1 (λ e=>by have:=(HF.out _ e).2;omega) (by omega)).cell (i:=6) rfl
   have u0:=HX5.out.1.box.cell (i:=0) rfl
   have c0:=(HRa.out wr HX5.out.2).cell (HAt.out 0 (by omega))
   have c1:=(HRa.out wr HX5.out.2).cell (HAt.out 1 (by omega))
   have c2:=(HRa.out wr HX5.out.2).cell (HAt.out 2 (by omega))
   have c3:=(HRa.out wr HX5.out.2).cell (HAt.out 3 (by omega))
   have c4:=(HRa.out wr HX5.out.2).cell (HAt.out 4 (by omega))
   have c5:=(HRa.out wr HX5.out.2).cell (HAt.out 5 (by omega))
   have c6:=(HRa.out wr HX5.out.2).cell (HAt.out 6 (by omega))
   have c7:=(HRa.out wr HX5.out.2).cell (HAt.out 7 (by omega))
   have c8:=(HRa.out wr HX5.out.2).cell (HAt.out 8 (by omega))
   have c9:=(HRa.out wr HX5.out.2).cell (HAt.out 9 (by omega))
   have c10:=(HRa.out wr HX5.out.2).cell (HAt.out 10 (by omega))
   have c11:=(HRa.out wr HX5.out.2).cell (HAt.out 11 (by omega))
   have c12:=(HRa.out wr HX5.out.2).cell (HAt.out 12 (by omega))
   have c13:=(HRa.out wr HX5.out.2).cell (HAt.out 13 (by omega))
   have c14:=(HRa.out wr HX5.out.2).cell (HAt.out 14 (by omega))
   have c15:=(HRa.out wr HX5.out.2).cell (HAt.out 15 (by omega))
   rw [←Nat.add_assoc] at c1 c2 c3 c4 c5 c6 c7 c8 c9 c10 c11 c12 c13 c14 c15
   rw [Nat.add_zero] at c0
   try dsimp only [List.getElem?_cons_zero,List.getElem?_cons_succ] at c0 c1 c2 c3 c4 c5 c6 c7 c8 c9 c10 c11 c12 c13 c14 c15
   go_upto_region 4 with fail
   refine wp_region_still_tail 6 (by kernel_rfl) (by kernel_rfl) ?_
   simp only [List.take_succ_cons,List.take_zero,List.drop_succ_cons,List.drop_zero]
   change wpStill _ _ wr.drew (λ a'=>wpList _ _ _ _ a' wr.drew) _ _
   replace HX5:Hid (ExS base g (w.heap.size+1) w4 wr.drew V u' V' N∧Below base w wr.drew):=Lib.hid ⟨HX5.out.1.below (Below.refl _ _).drew,HX5.out.2.trans (Below.refl _ _).drew⟩
   replace c0:wr.drew.cell? _=_:=c0
   replace c1:wr.drew.cell? _=_:=c1
   replace c2:wr.drew.cell? _=_:=c2
   replace c3:wr.drew.cell? _=_:=c3
   replace c4:wr.drew.cell? _=_:=c4
   replace c5:wr.drew.cell? _=_:=c5
   replace c6:wr.drew.cell? _=_:=c6
   replace c7:wr.drew.cell? _=_:=c7
   replace c8:wr.drew.cell? _=_:=c8
   replace c9:wr.drew.cell? _=_:=c9
   replace c10:wr.drew.cell? _=_:=c10
   replace c11:wr.drew.cell? _=_:=c11
   replace c12:wr.drew.cell? _=_:=c12
   replace c13:wr.drew.cell? _=_:=c13
   replace c14:wr.drew.cell? _=_:=c14
   replace c15:wr.drew.cell? _=_:=c15
   replace d0:wr.drew.cell? _=_:=d0
   replace d1:wr.drew.cell? _=_:=d1
   replace d2:wr.drew.cell? _=_:=d2
   replace d3:wr.drew.cell? _=_:=d3
   replace d4:wr.drew.cell? _=_:=d4
   replace d5:wr.drew.cell? _=_:=d5
   replace d6:wr.drew.cell? _=_:=d6
   replace u0:wr.drew.cell? _=_:=u0
   generalize wr.drew=wq1 at *
   repeat still_step
   try refine wpStill_nil ?_
   clear c0 c1 c2 c3 c4 c5 c6 c7 c8 c9 c10 c11 c12 c13 c14 c15 d0 d1 d2 d3 d4 d5 d6 u0
   go_wp2_with fail
   refine (HOne.out wq1 u' V' ⟨sk,ss,slo,swd,sas,idx,⟨k,hw,s,lo⟩,va⟩ b0 e0 _ HE0.out.2.1.1 HX5.out.1.us HL.out.2.1 HX5.out.2 HE0.out.2.2.1).mono ?_;rintro e wp1 ⟨rfl,Vn1,hu8,hp8⟩
   have HX8:=Lib.hid (HX5.out.1.call hu8 hp8)
   clear hu8 hp8
   have u0:=HX8.out.box.cell (i:=0) rfl
   have u1:=HX8.out.box.frz 0
   go_upto_region 5 with fail
   have hX9:=HX8.out.store
   generalize wp1.setCell ⟨w.heap.size+1,0,none⟩ (.slice (some ⟨g,0,none⟩) N N)=ws1 at *
   clear u0 u1
   obtain ⟨Un1,hUn⟩:∃ U,addsP (sizes l) u' (SH.rd ⟨sk,ss,slo,swd,sas,idx,⟨k,hw,s,lo⟩,va⟩)=U:=⟨_,rfl⟩
   have HWu1:Hid (WU (sizes l) Un1):=Lib.hid (by rw [←hUn];exact WU.adds _ HL.out.2.1)
   have HUn1:=Lib.hid hUn
   rw [hUn] at hX9
   have hbw9:Below base w ws1:=(HB.out.2.2.1.mono H.out.2.2.2.2.2.2).trans (hX9.low (λ b hb=>(HF.out b hb).1) (by have:=H.out.2.2.2.2.2.2;omega) (Nat.le_trans H.out.2.2.2.2.2.2 HB.out.2.2.1.size))
   replace HX5:Hid (ExS base g (w.heap.size+1) w4 ws1 V Un1 Vn1 N∧Below base w ws1):=Lib.hid ⟨hX9,hbw9⟩
   clear HX8 hX9 hbw9 hUn
   have d0:=(HX5.out.1.old HB.out.1 (λ e=>by have:=(HF.out _ e).2;omega) (by omega)).cell (i:=0) rfl
   have d1:=(HX5.out.1.old HB.out.1 (λ e=>by have:=(HF.out _ e).2;omega) (by omega)).cell (i:=1) rfl
   have d2:=(HX5.out.1.old HB.out.1 (λ e=>by have:=(HF.out _ e).2;omega) (by omega)).cell (i:=2) rfl
   have d3:=(HX5.out.1.old HB.out.1 (λ e=>by have:=(HF.out _ e).2;omega) (by omega)).cell (i:=3) rfl
   have d4:=(HX5.out.1.old HB.out.1 (λ e=>by have:=(HF.out _ e).2;omega) (by omega)).cell (i:=4) rfl
   have d5:=(HX5.out.1.old HB.out.1 (λ e=>by have:=(HF.out _ e).2;omega) (by omega)).cell (i:=5) rfl
   have d6:=(HX5.out.1.old HB.out.1 (λ e=>by have:=(HF.out _ e).2;omega) (by omega)).cell (i:=6) rfl
   have u0:=HX5.out.1.box.cell (i:=0) rfl
   have c13:=(HRa.out ws1 HX5.out.2).cell (HAt.out 13 (by omega))
   rw [←Nat.add_assoc] at c13
   try dsimp only [List.getElem?_cons_zero,List.getElem?_cons_succ] at c13
   go_upto_region 5 with fail
   refine wp_region_still_tail 7 (by kernel_rfl) (by kernel_rfl) ?_
   simp only [List.take_succ_cons,List.take_zero,List.drop_succ_cons,List.drop_zero]
   change wpStill _ _ ws1.drew (λ a'=>wpList _ _ _ _ a' ws1.drew) _ _
   replace HX5:Hid (ExS base g (w.heap.size+1) w4 ws1.drew V Un1 Vn1 N∧Below base w ws1.drew):=Lib.hid ⟨HX5.out.1.below (Below.refl _ _).drew,HX5.out.2.trans (Below.refl _ _).drew⟩
   replace c13:ws1.drew.cell? _=_:=c13
   replace d0:ws1.drew.cell? _=_:=d0
   replace d1:ws1.drew.cell? _=_:=d1
   replace d2:ws1.drew.cell? _=_:=d2
   replace d3:ws1.drew.cell? _=_:=d3
   replace d4:ws1.drew.cell? _=_:=d4
   replace d5:ws1.drew.cell? _=_:=d5
   replace d6:ws1.drew.cell? _=_:=d6
   replace u0:ws1.drew.cell? _=_:=u0
   generalize ws1.drew=wq2 at *
   repeat still_step
   try refine wpStill_nil ?_
   clear c13 d0 d1 d2 d3 d4 d5 d6 u0
   go_wp2_with fail
   refine (HRec.out wq2 Un1 Vn1 b0 pb cb bc HE0.out.1.1.1 HX5.out.1.us HWu1.out HX5.out.2 HBd.out.1 HBd.out.2.1).mono ?_;rintro e wp2 ⟨rfl,Vn2,hu8,hp8⟩
   have HX8:=Lib.hid (HX5.out.1.call hu8 hp8)
   clear hu8 hp8
   have u0:=HX8.out.box.cell (i:=0) rfl
   have u1:=HX8.out.box.frz 0
   go_upto_region 6 with fail
   have hX9:=HX8.out.store
   generalize wp2.setCell ⟨w.heap.size+1,0,none⟩ (.slice (some ⟨g,0,none⟩) N N)=ws2 at *
   clear u0 u1
   obtain ⟨Un2,hUn⟩:∃ U,addsP (sizes l) Un1 ((flatS b0).flatMap SH.rd)=U:=⟨_,rfl⟩
   have HWu2:Hid (WU (sizes l) Un2):=Lib.hid (by rw [←hUn];exact WU.adds _ HWu1.out)
   have HUn2:=Lib.hid hUn
   rw [hUn] at hX9
   have hbw9:Below base w ws2:=(HB.out.2.2.1.mono H.out.2.2.2.2.2.2).trans (hX9.low (λ b hb=>(HF.out b hb).1) (by have:=H.out.2.2.2.2.2.2;omega) (Nat.le_trans H.out.2.2.2.2.2.2 HB.out.2.2.1.size))
   replace HX5:Hid (ExS base g (w.heap.size+1) w4 ws2 V Un2 Vn2 N∧Below base w ws2):=Lib.hid ⟨hX9,hbw9⟩
   clear HX8 hX9 hbw9 hUn
   have d0:=(HX5.out.1.old HB.out.1 (λ e=>by have:=(HF.out _ e).2;omega) (by omega)).cell (i:=0) rfl
   have d1:=(HX5.out.1.old HB.out.1 (λ e=>by have:=(HF.out _ e).2;omega) (by omega)).cell (i:=1) rfl
   have d2:=(HX5.out.1.old HB.out.1 (λ e=>by have:=(HF.out _ e).2;omega) (by omega)).cell (i:=2) rfl
   have d3:=(HX5.out.1.old HB.out.1 (λ e=>by have:=(HF.out _ e).2;omega) (by omega)).cell (i:=3) rfl
   have d4:=(HX5.out.1.old HB.out.1 (λ e=>by have:=(HF.out _ e).2;omega) (by omega)).cell (i:=4) rfl
   have d5:=(HX5.out.1.old HB.out.1 (λ e=>by have:=(HF.out _ e).2;omega) (by omega)).cell (i:=5) rfl
   have d6:=(HX5.out.1.old HB.out.1 (λ e=>by have:=(HF.out _ e).2;omega) (by omega)).cell (i:=6) rfl
   have u0:=HX5.out.1.box.cell (i:=0) rfl
   have c14:=(HRa.out ws2 HX5.out.2).cell (HAt.out 14 (by omega))
   rw [←Nat.add_assoc] at c14
   try dsimp only [List.getElem?_cons_zero,List.getElem?_cons_succ] at c14
   go_upto_region 6 with fail
   refine wp_region_still_tail 7 (by kernel_rfl) (by kernel_rfl) ?_
   simp only [List.take_succ_cons,List.take_zero,List.drop_succ_cons,List.drop_zero]
   change wpStill _ _ ws2.drew (λ a'=>wpList _ _ _ _ a' ws2.drew) _ _
   replace HX5:Hid (ExS base g (w.heap.size+1) w4 ws2.drew V Un2 Vn2 N∧Below base w ws2.drew):=Lib.hid ⟨HX5.out.1.below (Below.refl _ _).drew,HX5.out.2.trans (Below.refl _ _).drew⟩
   replace c14:ws2.drew.cell? _=_:=c14
   replace d0:ws2.drew.cell? _=_:=d0
   replace d1:ws2.drew.cell? _=_:=d1
   replace d2:ws2.drew.cell? _=_:=d2
   replace d3:ws2.drew.cell? _=_:=d3
   replace d4:ws2.drew.cell? _=_:=d4
   replace d5:ws2.drew.cell? _=_:=d5
   replace d6:ws2.drew.cell? _=_:=d6
   replace u0:ws2.drew.cell? _=_:=u0
   generalize ws2.drew=wq3 at *
   repeat still_step
   try refine wpStill_nil ?_
   clear c14 d0 d1 d2 d3 d4 d5 d6 u0
   go_wp2_with fail
   refine (HRec.out wq3 Un2 Vn2 e0 pe ce ec HE0.out.1.1.2 HX5.out.1.us HWu2.out HX5.out.2 HBd.out.2.2.1 HBd.out.2.2.2).mono ?_;rintro e wp3 ⟨rfl,Vn3,hu8,hp8⟩
   have HX8:=Lib.hid (HX5.out.1.call hu8 hp8)
   clear hu8 hp8
   have u0:=HX8.out.box.cell (i:=0) rfl
   have u1:=HX8.out.box.frz 0
   go_upto_region 3 with fail
   have hX9:=HX8.out.store
   generalize wp3.setCell ⟨w.heap.size+1,0,none⟩ (.slice (some ⟨g,0,none⟩) N N)=ws3 at *
   clear u0 u1
   obtain ⟨Un3,hUn⟩:∃ U,addsP (sizes l) Un2 ((flatS e0).flatMap SH.rd)=U:=⟨_,rfl⟩
   have HWu3:Hid (WU (sizes l) Un3):=Lib.hid (by rw [←hUn];exact WU.adds _ HWu2.out)
   have HUn3:=Lib.hid hUn
   rw [hUn] at hX9
   have hbw9:Below base w ws3:=(HB.out.2.2.1.mono H.out.2.2.2.2.2.2).trans (hX9.low (λ b hb=>(HF.out b hb).1) (by have:=H.out.2.2.2.2.2.2;omega) (Nat.le_trans H.out.2.2.2.2.2.2 HB.out.2.2.1.size))
   replace HX5:Hid (ExS base g (w.heap.size+1) w4 ws3 V Un3 Vn3 N∧Below base w ws3):=Lib.hid ⟨hX9,hbw9⟩
   clear HX8 hX9 hbw9 hUn
   go_wp2_with fail
   have HWuC:=HWu3
   go_roundw
   case rel =>
    refine ⟨i+1,r0,_,_,by go_num,?_,HE0.out.2.2.2.1,HE0.out.1.2,HE0.out.2.1.2.2.2.2.2,HWuC.out,HX5.out.1,?_⟩
    ·have:=HL.out.1;simp only [SL.len] at this;omega
    ·have:=HL.out.2.2.2.1
     rw [flatS,List.flatMap_cons,List.flatMap_append,List.flatMap_append,addsP_app,addsP_app,addsP_app,HUn1.out,HUn2.out,HUn3.out] at this
     exact this
   case measure=>simp [intOf];have:=HE0.out.2.2.2.2;omega
  ·have hie:i=ln:=by omega
   have hrn:r = .nil:=by
    cases r with
    | nil=>rfl
    | cons h0 b0 e0 r0=>simp only [SL.len] at hil;omega
   subst hrn
   have hfu:u'=R:=by simpa [flatS,addsP] using hRr
   subst hfu
   have hii:¬(i:Int)<(ln:Int):=by omega
   have HX:=Lib.hid hXr
   have HBr:Hid (Blk wr (w.heap.size+1+1) 86 [.slice none 0 0]):=Lib.hid (hXr.old HB.out.2.1 (λ e=>by have:=(HF.out _ e).2;omega) (by omega))
   have u0:=hXr.box.cell (i:=0) rfl
   have rz0:=HBr.out.cell (i:=0) rfl
   have rz1:=HBr.out.frz 0
   clear hTr hAl hrw hWu hRr hlow hbw hlt hie hil hXr
   go_wp2_with fail
   have hfn:=HX.out.fin HB.out.2.2.1 (λ b hb=>(HF.out b hb).2) (by omega) (br:=w.heap.size+1+1) (by omega) HB.out.2.1.lt (by omega) (.slice (some ⟨g,0,none⟩) N N)
   have e0:(wr.setCell ⟨w.heap.size+1+1,0,none⟩ (.slice (some ⟨g,0,none⟩) N N)).cell? ⟨w.heap.size+1+1,0,none⟩=some (.slice (some ⟨g,0,none⟩) N N):=(HBr.out.set 0 _).cell (i:=0) rfl
   refine bodyPost_ret (v := .agg #[usV g N]) (by simp [results,Try.results58,go_sem,e0]) rfl ⟨rfl,?_⟩
   exact hfn
theorem rd_all {base:Nat} {p:Option Addr} {c:Nat} {l:List Sg} {v1 v2 v3 v4 v5 v6:Value}:∀ {t:SL},t.wf l.length→AllS (λ _ b e=>RdC base p c l v1 v2 v3 v4 v5 v6 b∧RdC base p c l v1 v2 v3 v4 v5 v6 e) t
 | .nil,_=>trivial
 | .cons h b e r,hw=>⟨⟨rd_step hw.2.2.2.1 hw.2.1 (rd_all hw.2.2.2.1),rd_step hw.2.2.2.2.1 hw.2.2.1 (rd_all hw.2.2.2.2.1)⟩,rd_all hw.2.2.2.2.2⟩
end Go.Proofs.Ytlklleaocbnbcaa
