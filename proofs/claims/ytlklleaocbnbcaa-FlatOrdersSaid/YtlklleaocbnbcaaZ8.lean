import Derived.Test.YtlklleaocbnbcaaZ7
namespace Go.Proofs.Ytlklleaocbnbcaa
set_option linter.unusedVariables false
open Go.RowKit
theorem writeAts_cons (f:Nat→Bool) (h:SH) (l:List SH):writeAts f (h::l)=(if f h.k=true then [h.wr] else [])++writeAts f l:=by
 unfold writeAts
 rw [List.filter_cons]
 split <;> simp_all
theorem writeAts_app (f:Nat→Bool) (l k:List SH):writeAts f (l++k)=writeAts f l++writeAts f k:=by
 unfold writeAts
 rw [List.filter_append,List.map_append]
theorem ExS.keep {g:Nat} {W W':World} {V V':Nat→Value} {b t:Nat} {l:List Value} (hB:Blk W b t l) (hn:¬FV g V b) (hp:Upd (FV g V) (FV g V') W W'):Blk W' b t l∧¬FV g V' b:=by
 refine ⟨hp.blk hB hn,λ e => ?_⟩
 rcases hp.sub b e with h | h
 ·exact hn h
 ·have:=hB.lt;omega
def fAB (a b k:Nat):Bool:=decide (k=a) || decide (k=b)
def WrC (a b:Nat) (base:Nat) (p:Option Addr) (c:Nat) (l:List Sg) (v1 v2 v3 v4 v5 v6:Value) (t:SL):Prop :=
 ∀ (g:Nat) (w:World) (u:Us) (V:Nat→Value) (pl:Option Addr) (cl:Nat) (sc:List Value),UsM base g w u V→WU (sizes l) u→SgsM base w p c l→ROA (λ k=>k<base) w (.slice pl t.len cl) 16 t.len sc→SR (λ k=>k<base) w t sc →
  Calls Try.prog 35 #[.agg #[.slice p l.length c,v1,v2,v3,v4,v5,v6],.agg #[usV g l.length],.slice pl t.len cl,.int .i64 a,.int .i64 b] w (AddR base g l.length w V (addsP (sizes l) u (writeAts (fAB a b) (flatS t))))
set_option maxRecDepth 100000 in
set_option maxHeartbeats 8000000 in
theorem wr_step {a b:Nat} {base:Nat} {p:Option Addr} {c:Nat} {l:List Sg} {v1 v2 v3 v4 v5 v6:Value} {t:SL} (htw:t.wf l.length) (htl:t.len≤1000000) (ih:AllS (λ _ x e=>WrC a b base p c l v1 v2 v3 v4 v5 v6 x∧WrC a b base p c l v1 v2 v3 v4 v5 v6 e) t):WrC a b base p c l v1 v2 v3 v4 v5 v6 t:=by
 intro g w u V pl cl sc hus hwu hs hrl hsr
 obtain ⟨N,hN⟩:∃ N,l.length=N:=⟨_,rfl⟩
 have hadd:∀ (W:World) (u':Us) (V':Nat→Value) (s0 lo0 w0:Nat),UsM base g W u' V'→WU (sizes l) u'→Below base w W→s0<N→lo0≤1000→w0≤1000→Calls Try.prog 59 #[.agg #[.slice p N c,v1,v2,v3,v4,v5,v6],.agg #[usV g N],.int .i64 s0,.int .i64 lo0,.int .i64 w0] W (AddR base g N W V' (addP (sizes l) u' ⟨s0,lo0,w0⟩)):=λ W u' V' s0 lo0 w0 h1 h2 h3 h4 h5 h6=>by
  have:=radd_any (v1:=v1) (v2:=v2) (v3:=v3) (v4:=v4) (v5:=v5) (v6:=v6) h1 h2 (hs.low h3) ⟨s0,lo0,w0⟩ (by show s0<_;omega) h5 h6
  rw [hN] at this
  exact this
 have hadd0:∀ (W:World) (u':Us) (V':Nat→Value) (s0:Nat),UsM base g W u' V'→WU (sizes l) u'→Below base w W→s0<N→Calls Try.prog 59 #[.agg #[.slice p N c,v1,v2,v3,v4,v5,v6],.agg #[usV g N],.int .i64 s0,.int .i64 0,.int .i64 1000] W (AddR base g N W V' (addP (sizes l) u' ⟨s0,0,1000⟩)):=λ W u' V' s0 h1 h2 h3 h4=>hadd W u' V' s0 0 1000 h1 h2 h3 h4 (by omega) (by omega)
 have hrec:∀ (W:World) (u':Us) (V':Nat→Value) (t0:SL) (pl':Option Addr) (cl':Nat) (sc':List Value),WrC a b base p c l v1 v2 v3 v4 v5 v6 t0→UsM base g W u' V'→WU (sizes l) u'→Below base w W→ROA (λ k=>k<base) w (.slice pl' t0.len cl') 16 t0.len sc'→SR (λ k=>k<base) w t0 sc'→Calls Try.prog 35 #[.agg #[.slice p N c,v1,v2,v3,v4,v5,v6],.agg #[usV g N],.slice pl' t0.len cl',.int .i64 a,.int .i64 b] W (AddR base g N W V' (addsP (sizes l) u' (writeAts (fAB a b) (flatS t0)))):=λ W u' V' t0 pl' cl' sc' h1 h2 h3 h4 h5 h6=>by
  have:=h1 g W u' V' pl' cl' sc' h2 h3 (hs.low h4) (h5.turn λ k hk _=>⟨hk,h4.block k hk⟩) (h6.turn ER.stay λ k hk _=>⟨hk,h4.block k hk⟩)
  rw [hN] at this
  exact this
 have HAdd:=Lib.hid hadd
 have HAdd0:=Lib.hid hadd0
 have HRec:=Lib.hid hrec
 obtain ⟨R,hR⟩:∃ R,addsP (sizes l) u (writeAts (fAB a b) (flatS t))=R:=⟨_,rfl⟩
 rw [hR,hN]
 have hN8:=hs.le
 rw [hN] at hN8
 obtain ⟨ln,hln⟩:∃ n,t.len=n:=⟨_,rfl⟩
 rw [hln] at hrl htl ⊢
 have hb4:Below w.heap.size w (((w.alloc (.cells #[.slice p N c,v1,v2,v3,v4,v5,v6] 31)).alloc (.cells #[usV g N] 86)).alloc (.cells #[.slice none 0 0] 86)):=Below.next (Below.next (Below.new _ _) (Below.new _ _)) (Below.new _ _)
 have hx0:Blk (((w.alloc (.cells #[.slice p N c,v1,v2,v3,v4,v5,v6] 31)).alloc (.cells #[usV g N] 86)).alloc (.cells #[.slice none 0 0] 86)) (w.heap.size) 31 [.slice p N c,v1,v2,v3,v4,v5,v6]:=by
  have this:=Blk.new (w:=w) 31 [.slice p N c,v1,v2,v3,v4,v5,v6]
  have this:=this.next (Below.new (w.alloc (.cells #[.slice p N c,v1,v2,v3,v4,v5,v6] 31)) (.cells #[usV g N] 86))
  have this:=this.next (Below.new ((w.alloc (.cells #[.slice p N c,v1,v2,v3,v4,v5,v6] 31)).alloc (.cells #[usV g N] 86)) (.cells #[.slice none 0 0] 86))
  exact this
 have hx1:Blk (((w.alloc (.cells #[.slice p N c,v1,v2,v3,v4,v5,v6] 31)).alloc (.cells #[usV g N] 86)).alloc (.cells #[.slice none 0 0] 86)) (w.heap.size+1) 86 [usV g N]:=by
  have this:=Blk.new (w:=(w.alloc (.cells #[.slice p N c,v1,v2,v3,v4,v5,v6] 31))) 86 [usV g N]
  have this:=this.next (Below.new ((w.alloc (.cells #[.slice p N c,v1,v2,v3,v4,v5,v6] 31)).alloc (.cells #[usV g N] 86)) (.cells #[.slice none 0 0] 86))
  rw [World.size_alloc] at this
  exact this
 have hx2:Blk (((w.alloc (.cells #[.slice p N c,v1,v2,v3,v4,v5,v6] 31)).alloc (.cells #[usV g N] 86)).alloc (.cells #[.slice none 0 0] 86)) (w.heap.size+1+1) 86 [.slice none 0 0]:=by
  have this:=Blk.new (w:=((w.alloc (.cells #[.slice p N c,v1,v2,v3,v4,v5,v6] 31)).alloc (.cells #[usV g N] 86))) 86 [.slice none 0 0]
  rw [World.size_alloc,World.size_alloc] at this
  exact this
 have hX:ExS base g (w.heap.size+1) (((w.alloc (.cells #[.slice p N c,v1,v2,v3,v4,v5,v6] 31)).alloc (.cells #[usV g N] 86)).alloc (.cells #[.slice none 0 0] 86)) (((w.alloc (.cells #[.slice p N c,v1,v2,v3,v4,v5,v6] 31)).alloc (.cells #[usV g N] 86)).alloc (.cells #[.slice none 0 0] 86)) V u V N:=ExS.start hus hb4 hx1 (by omega)
 have hf0:∀ b,FV g V b→base≤b∧b<w.heap.size:=hus.flt
 have hsz:=hus.size
 have H:=Lib.hid (And.intro htw (And.intro hwu (And.intro hN8 (And.intro hN (And.intro hln (And.intro htl hsz))))))
 have HT:=Lib.hid (And.intro hrl hsr)
 have HI:=Lib.hid ih
 have HB:=Lib.hid (And.intro hx0 (And.intro hx2 (And.intro hb4 hX)))
 have HF:=Lib.hid hf0
 have HR:=Lib.hid hR
 clear hus htw hwu hs hrl hsr hN hN8 hx0 hx1 hx2 hX hf0 hsz hR hb4 hadd hadd0 hrec hln htl ih
 go_enter Try.func35,Try.ntmps35
 go_upto_region 1 with fail
 generalize hW4:(((w.alloc (.cells #[.slice p N c,v1,v2,v3,v4,v5,v6] 31)).alloc (.cells #[usV g N] 86)).alloc (.cells #[.slice none 0 0] 86))=w4 at *
 clear hW4
 go_wp2_with fail
 go_loopw [11] (λ iv wr=>∃ (i:Nat) (r:SL) (u':Us) (V':Nat→Value),iv = .int .i64 i∧i+r.len=ln∧SR (λ k=>k<base) w r (sc.drop (i*16))∧AllS (λ _ x e=>WrC a b base p c l v1 v2 v3 v4 v5 v6 x∧WrC a b base p c l v1 v2 v3 v4 v5 v6 e) r∧r.wf l.length∧WU (sizes l) u'∧ExS base g (w.heap.size+1) w4 wr V u' V' N∧addsP (sizes l) u' (writeAts (fAB a b) (flatS r))=R) (λ iv _=>ln-(intOf iv).toNat)
 case atStart=>exact ⟨0,t,u,V,rfl,by rw [Nat.zero_add];exact H.out.2.2.2.2.1,by simpa using HT.out.2,HI.out,H.out.1,H.out.2.1,HB.out.2.2.2,HR.out⟩
 case round =>
  obtain ⟨i,r,u',V',rfl,hil,hTr,hAl,hrw,hWu,hXr,hRr⟩:=hrel
  have hlow:=hXr.low (λ b hb=>(HF.out b hb).1) (by have:=H.out.2.2.2.2.2.2;omega) (Nat.le_trans H.out.2.2.2.2.2.2 HB.out.2.2.1.size)
  have hbw:=(HB.out.2.2.1.mono H.out.2.2.2.2.2.2).trans hlow
  have HL:=Lib.hid (And.intro hil (And.intro hWu (And.intro hXr (And.intro hRr hbw))))
  by_cases hlt:i<ln
  ·obtain ⟨h0,b0,e0,r0,rfl⟩:∃ h0 b0 e0 r0,r = .cons h0 b0 e0 r0:=by
    cases r with
    | nil=>simp only [SL.len] at hil;omega
    | cons h0 b0 e0 r0=>exact ⟨h0,b0,e0,r0,rfl⟩
   obtain ⟨cs0,hcl,hat,hone,hrest⟩:=sr_at hTr
   obtain ⟨op,sg,pv,cv,vl,pa,ca,pi,ci,ic,pb,cb,bc,pe,ce,ec,rfl,_,_,_,hbr,hbs,her,hes⟩:=sr_one hone
   have hra:RO wr (.slice pl ln cl) 16 ln sc:=(HT.out.1.turn (A':=λ k=>k<base) (w':=wr) λ k hk _=>⟨hk,hbw.block k hk⟩).ro
   obtain ⟨bb,o,rfl⟩:=hra.sl (hat 0 (by omega))
   have HBd:=Lib.hid (And.intro hbr (And.intro hbs (And.intro her hes)))
   obtain ⟨sk,ss,slo,swd,sas,idx,⟨k,hw,s,lo⟩,va⟩:=h0
   have c0:=hra.cell (hat 0 (by omega))
   have c1:=hra.cell (hat 1 (by omega))
   have c2:=hra.cell (hat 2 (by omega))
   have c3:=hra.cell (hat 3 (by omega))
   have c4:=hra.cell (hat 4 (by omega))
   have c5:=hra.cell (hat 5 (by omega))
   have c6:=hra.cell (hat 6 (by omega))
   have c7:=hra.cell (hat 7 (by omega))
   have c8:=hra.cell (hat 8 (by omega))
   have c9:=hra.cell (hat 9 (by omega))
   have c10:=hra.cell (hat 10 (by omega))
   have c11:=hra.cell (hat 11 (by omega))
   have c12:=hra.cell (hat 12 (by omega))
   have c13:=hra.cell (hat 13 (by omega))
   have c14:=hra.cell (hat 14 (by omega))
   have c15:=hra.cell (hat 15 (by omega))
   rw [←Nat.add_assoc] at c1 c2 c3 c4 c5 c6 c7 c8 c9 c10 c11 c12 c13 c14 c15
   rw [Nat.add_zero] at c0
   have hii:(i:Int)<(ln:Int):=by omega
   have hi0:(0:Int)≤(i:Int):=by omega
   have hiw:IntKind.i64.wrap ((i:Int)+1)=((i+1:Nat):Int):=by rw [i64_of (by have:=H.out.2.2.2.2.2.1;omega)];omega
   have HE0:=Lib.hid (And.intro hAl (And.intro hrw (And.intro hone (And.intro hrest hlt))))
   dsimp only at *
   clear hat hcl hone hrest hra hTr hAl hrw hWu hRr hil hlow hlt hbr hbs her hes
   go_upto_region 5 with fail
   have HS:Hid (Blk (wr.alloc (.cells #[.int .i64 (sk:Nat),.int .i64 (ss:Nat),.int .i64 (slo:Nat),.int .i64 (swd:Nat),.slice pi idx.len ci,.int .i64 (k:Nat),.int .i64 op,.int .i64 (hw:Nat),.int .i64 (s:Nat),.int .i64 (lo:Nat),.bool sg,.slice pv vl.length cv,.slice pa va.len ca,.slice pb b0.len cb,.slice pe e0.len ce,.int .i64 (sas:Nat)] 81)) wr.heap.size 81 [.int .i64 (sk:Nat),.int .i64 (ss:Nat),.int .i64 (slo:Nat),.int .i64 (swd:Nat),.slice pi idx.len ci,.int .i64 (k:Nat),.int .i64 op,.int .i64 (hw:Nat),.int .i64 (s:Nat),.int .i64 (lo:Nat),.bool sg,.slice pv vl.length cv,.slice pa va.len ca,.slice pb b0.len cb,.slice pe e0.len ce,.int .i64 (sas:Nat)]∧¬FV g V' wr.heap.size):=Lib.hid ⟨Blk.new _ _,λ e=>by have:=(HL.out.2.2.1.us.flt _ e).2;omega⟩
   have HX5:Hid (ExS base g (w.heap.size+1) w4 (wr.alloc (.cells #[.int .i64 (sk:Nat),.int .i64 (ss:Nat),.int .i64 (slo:Nat),.int .i64 (swd:Nat),.slice pi idx.len ci,.int .i64 (k:Nat),.int .i64 op,.int .i64 (hw:Nat),.int .i64 (s:Nat),.int .i64 (lo:Nat),.bool sg,.slice pv vl.length cv,.slice pa va.len ca,.slice pb b0.len cb,.slice pe e0.len ce,.int .i64 (sas:Nat)] 81)) V u' V' N∧Below base w (wr.alloc (.cells #[.int .i64 (sk:Nat),.int .i64 (ss:Nat),.int .i64 (slo:Nat),.int .i64 (swd:Nat),.slice pi idx.len ci,.int .i64 (k:Nat),.int .i64 op,.int .i64 (hw:Nat),.int .i64 (s:Nat),.int .i64 (lo:Nat),.bool sg,.slice pv vl.length cv,.slice pa va.len ca,.slice pb b0.len cb,.slice pe e0.len ce,.int .i64 (sas:Nat)] 81))):=Lib.hid ⟨HL.out.2.2.1.below (Below.new _ _),HL.out.2.2.2.2.trans ((Below.new _ _).mono HL.out.2.2.1.us.size)⟩
   have hbs0:=Lib.hid (show w.heap.size+1<wr.heap.size from HL.out.2.2.1.box.lt)
   generalize hws:wr.heap.size=bs at *
   clear hbw hXr
   generalize wr.alloc (.cells #[.int .i64 (sk:Nat),.int .i64 (ss:Nat),.int .i64 (slo:Nat),.int .i64 (swd:Nat),.slice pi idx.len ci,.int .i64 (k:Nat),.int .i64 op,.int .i64 (hw:Nat),.int .i64 (s:Nat),.int .i64 (lo:Nat),.bool sg,.slice pv vl.length cv,.slice pa va.len ca,.slice pb b0.len cb,.slice pe e0.len ce,.int .i64 (sas:Nat)] 81)=w5 at *
   clear c0 c1 c2 c3 c4 c5 c6 c7 c8 c9 c10 c11 c12 c13 c14 c15
   have s0:=HS.out.1.cell (i:=0) rfl
   go_cut [32] from 23 to 69 (λ v32 wx=>v32 = .bool (fAB a b sk)∧wx=w5)
   case first =>
    by_cases hk1:sk=a
    ·have hk1i:((sk:Int) == (a:Int))=true:=by simp;omega
     have HK:=Lib.hid hk1
     clear hk1
     go_wp2_with fail
     go_meet
     exact ⟨by simp [fAB,HK.out],rfl⟩
    ·have hk1i:((sk:Int) == (a:Int))=false:=by simp;omega
     by_cases hk2:sk=b
     ·have hk2i:((sk:Int) == (b:Int))=true:=by simp;omega
      have HK:=Lib.hid (And.intro hk1 hk2)
      clear hk1 hk2
      go_wp2_with fail
      go_meet
      exact ⟨by simp [fAB,HK.out.2],rfl⟩
     ·have hk2i:((sk:Int) == (b:Int))=false:=by simp;omega
      have HK:=Lib.hid (And.intro hk1 hk2)
      clear hk1 hk2
      go_wp2_with fail
      go_meet
      exact ⟨by simp [fAB,HK.out.1,HK.out.2],rfl⟩
   case rest =>
    obtain ⟨rfl,hwc⟩:=hcut
    have hwc2:=hwc.symm
    clear hwc
    subst hwc2
    obtain ⟨q,hq⟩:∃ q,fAB a b sk=q:=⟨_,rfl⟩
    rw [hq]
    have HQ:=Lib.hid hq
    clear hq s0
    go_upto_if 32 with fail
    go_cut [] from 23 to 69 (λ wx=>∃ V1,ExS base g (w.heap.size+1) w4 wx V (addsP (sizes l) u' (if q=true then [SH.wr ⟨sk,ss,slo,swd,sas,idx,⟨k,hw,s,lo⟩,va⟩] else [])) V1 N∧Blk wx bs 81 [.int .i64 (sk:Nat),.int .i64 (ss:Nat),.int .i64 (slo:Nat),.int .i64 (swd:Nat),.slice pi idx.len ci,.int .i64 (k:Nat),.int .i64 op,.int .i64 (hw:Nat),.int .i64 (s:Nat),.int .i64 (lo:Nat),.bool sg,.slice pv vl.length cv,.slice pa va.len ca,.slice pb b0.len cb,.slice pe e0.len ce,.int .i64 (sas:Nat)]∧¬FV g V1 bs)
    case first =>
     cases q with
     | false =>
      go_wp2_with fail
      go_meet
      exact ⟨V',HX5.out.1,HS.out⟩
     | true =>
      have s1:=HS.out.1.cell (i:=1) rfl
      have s2:=HS.out.1.cell (i:=2) rfl
      have s3:=HS.out.1.cell (i:=3) rfl
      have s4:=HS.out.1.cell (i:=4) rfl
      have d0:=(HX5.out.1.old HB.out.1 (λ e=>by have:=(HF.out _ e).2;omega) (by omega)).cell (i:=0) rfl
      have d1:=(HX5.out.1.old HB.out.1 (λ e=>by have:=(HF.out _ e).2;omega) (by omega)).cell (i:=1) rfl
      have d2:=(HX5.out.1.old HB.out.1 (λ e=>by have:=(HF.out _ e).2;omega) (by omega)).cell (i:=2) rfl
      have d3:=(HX5.out.1.old HB.out.1 (λ e=>by have:=(HF.out _ e).2;omega) (by omega)).cell (i:=3) rfl
      have d4:=(HX5.out.1.old HB.out.1 (λ e=>by have:=(HF.out _ e).2;omega) (by omega)).cell (i:=4) rfl
      have d5:=(HX5.out.1.old HB.out.1 (λ e=>by have:=(HF.out _ e).2;omega) (by omega)).cell (i:=5) rfl
      have d6:=(HX5.out.1.old HB.out.1 (λ e=>by have:=(HF.out _ e).2;omega) (by omega)).cell (i:=6) rfl
      have u0:=HX5.out.1.box.cell (i:=0) rfl
      have hwh:=HE0.out.2.1.1
      have hsN:ss<N:=by have:=hwh.2.1;rw [H.out.2.2.2.1] at this;exact this
      have HW:=Lib.hid (show ss<N∧slo≤1000∧swd≤1000 from ⟨hsN,hwh.2.2.1,hwh.2.2.2.1⟩)
      clear hwh hsN
      by_cases hix:0<idx.len
      ·have hixi:(0:Int)<(idx.len:Int):=by omega
       have hat:SH.wr ⟨sk,ss,slo,swd,sas,idx,⟨k,hw,s,lo⟩,va⟩=⟨ss,0,1000⟩:=by unfold SH.wr;rw [if_neg (by show ¬idx.len=0;omega)]
       have HAt:=Lib.hid hat
       clear hat hix
       go_wp2_with fail
       refine (HAdd0.out w5 u' V' ss HX5.out.1.us HL.out.2.1 HX5.out.2 HW.out.1).mono ?_;rintro e w6 ⟨rfl,V6,hu6,hp6⟩
       have HX6:=Lib.hid (HX5.out.1.call hu6 hp6)
       have HS6:=Lib.hid (ExS.keep HS.out.1 HS.out.2 hp6)
       clear hu6 hp6 u0 d0 d1 d2 d3 d4 d5 d6 s1 s2 s3 s4
       have u0:=HX6.out.box.cell (i:=0) rfl
       have u1:=HX6.out.box.frz 0
       go_wp2_with fail
       go_meet
       refine ⟨V6,?_,HS6.out.1.other _ (by show bs≠w.heap.size+1;have:=hbs0.out;omega),HS6.out.2⟩
       rw [if_pos trivial,addsP_one,HAt.out]
       exact HX6.out.store
      ·have hixi:¬(0:Int)<(idx.len:Int):=by omega
       have hat:SH.wr ⟨sk,ss,slo,swd,sas,idx,⟨k,hw,s,lo⟩,va⟩=⟨ss,slo,swd⟩:=by unfold SH.wr;rw [if_pos (by show idx.len=0;omega)]
       have HAt:=Lib.hid hat
       clear hat hix
       go_wp2_with fail
       refine (HAdd.out w5 u' V' ss slo swd HX5.out.1.us HL.out.2.1 HX5.out.2 HW.out.1 HW.out.2.1 HW.out.2.2).mono ?_;rintro e w6 ⟨rfl,V6,hu6,hp6⟩
       have HX6:=Lib.hid (HX5.out.1.call hu6 hp6)
       have HS6:=Lib.hid (ExS.keep HS.out.1 HS.out.2 hp6)
       clear hu6 hp6 u0 d0 d1 d2 d3 d4 d5 d6 s1 s2 s3 s4
       have u0:=HX6.out.box.cell (i:=0) rfl
       have u1:=HX6.out.box.frz 0
       go_wp2_with fail
       go_meet
       refine ⟨V6,?_,HS6.out.1.other _ (by show bs≠w.heap.size+1;have:=hbs0.out;omega),HS6.out.2⟩
       rw [if_pos trivial,addsP_one,HAt.out]
       exact HX6.out.store
    case rest =>
     obtain ⟨V1,hX6,hS6,hn6⟩:=hcut
     have HX6:=Lib.hid hX6
     have HS6:=Lib.hid (And.intro hS6 hn6)
     obtain ⟨U1,hU1⟩:∃ U1,addsP (sizes l) u' (if q=true then [SH.wr ⟨sk,ss,slo,swd,sas,idx,⟨k,hw,s,lo⟩,va⟩] else [])=U1:=⟨_,rfl⟩
     have hwu1:WU (sizes l) U1:=by rw [←hU1];exact WU.adds _ HL.out.2.1
     have HU1:=Lib.hid hU1
     rw [hU1] at HX6
     have HWu1:=Lib.hid hwu1
     clear hX6 hS6 hn6 hU1 hwu1
     have hbw6:Below base w wc:=(HB.out.2.2.1.mono H.out.2.2.2.2.2.2).trans (HX6.out.low (λ b hb=>(HF.out b hb).1) (by have:=H.out.2.2.2.2.2.2;omega) (Nat.le_trans H.out.2.2.2.2.2.2 HB.out.2.2.1.size))
     have HBw6:=Lib.hid hbw6
     clear hbw6
     have s13:=HS6.out.1.cell (i:=13) rfl
     have d0:=(HX6.out.old HB.out.1 (λ e=>by have:=(HF.out _ e).2;omega) (by omega)).cell (i:=0) rfl
     have d1:=(HX6.out.old HB.out.1 (λ e=>by have:=(HF.out _ e).2;omega) (by omega)).cell (i:=1) rfl
     have d2:=(HX6.out.old HB.out.1 (λ e=>by have:=(HF.out _ e).2;omega) (by omega)).cell (i:=2) rfl
     have d3:=(HX6.out.old HB.out.1 (λ e=>by have:=(HF.out _ e).2;omega) (by omega)).cell (i:=3) rfl
     have d4:=(HX6.out.old HB.out.1 (λ e=>by have:=(HF.out _ e).2;omega) (by omega)).cell (i:=4) rfl
     have d5:=(HX6.out.old HB.out.1 (λ e=>by have:=(HF.out _ e).2;omega) (by omega)).cell (i:=5) rfl
     have d6:=(HX6.out.old HB.out.1 (λ e=>by have:=(HF.out _ e).2;omega) (by omega)).cell (i:=6) rfl
     have u0:=HX6.out.box.cell (i:=0) rfl
     go_wp2_with fail
     refine (HRec.out wc U1 V1 b0 pb cb bc HE0.out.1.1.1 HX6.out.us HWu1.out HBw6.out HBd.out.1 HBd.out.2.1).mono ?_;rintro e w7 ⟨rfl,V7,hu7,hp7⟩
     have HX7:=Lib.hid (HX6.out.call hu7 hp7)
     have HS7:=Lib.hid (ExS.keep HS6.out.1 HS6.out.2 hp7)
     clear hu7 hp7 u0 d0 d1 d2 d3 d4 d5 d6 s13
     have u0:=HX7.out.box.cell (i:=0) rfl
     have u1:=HX7.out.box.frz 0
     go_upto_region 10 with fail
     have HX8:=Lib.hid HX7.out.store
     have HS8:Hid (Blk (w7.setCell ⟨w.heap.size+1,0,none⟩ (.slice (some ⟨g,0,none⟩) N N)) bs 81 [.int .i64 (sk:Nat),.int .i64 (ss:Nat),.int .i64 (slo:Nat),.int .i64 (swd:Nat),.slice pi idx.len ci,.int .i64 (k:Nat),.int .i64 op,.int .i64 (hw:Nat),.int .i64 (s:Nat),.int .i64 (lo:Nat),.bool sg,.slice pv vl.length cv,.slice pa va.len ca,.slice pb b0.len cb,.slice pe e0.len ce,.int .i64 (sas:Nat)]∧¬FV g V7 bs):=Lib.hid ⟨HS7.out.1.other _ (by show bs≠w.heap.size+1;have:=hbs0.out;omega),HS7.out.2⟩
     generalize w7.setCell ⟨w.heap.size+1,0,none⟩ (.slice (some ⟨g,0,none⟩) N N)=w8 at *
     clear u0 u1 HX7 HS7
     obtain ⟨U2,hU2⟩:∃ U2,addsP (sizes l) U1 (writeAts (fAB a b) (flatS b0))=U2:=⟨_,rfl⟩
     have hwu2:WU (sizes l) U2:=by rw [←hU2];exact WU.adds _ HWu1.out
     have HU2:=Lib.hid hU2
     rw [hU2] at HX8
     have HWu2:=Lib.hid hwu2
     clear hU2 hwu2
     have hbw8:Below base w w8:=(HB.out.2.2.1.mono H.out.2.2.2.2.2.2).trans (HX8.out.low (λ b hb=>(HF.out b hb).1) (by have:=H.out.2.2.2.2.2.2;omega) (Nat.le_trans H.out.2.2.2.2.2.2 HB.out.2.2.1.size))
     have HBw8:=Lib.hid hbw8
     clear hbw8
     have s14:=HS8.out.1.cell (i:=14) rfl
     have d0:=(HX8.out.old HB.out.1 (λ e=>by have:=(HF.out _ e).2;omega) (by omega)).cell (i:=0) rfl
     have d1:=(HX8.out.old HB.out.1 (λ e=>by have:=(HF.out _ e).2;omega) (by omega)).cell (i:=1) rfl
     have d2:=(HX8.out.old HB.out.1 (λ e=>by have:=(HF.out _ e).2;omega) (by omega)).cell (i:=2) rfl
     have d3:=(HX8.out.old HB.out.1 (λ e=>by have:=(HF.out _ e).2;omega) (by omega)).cell (i:=3) rfl
     have d4:=(HX8.out.old HB.out.1 (λ e=>by have:=(HF.out _ e).2;omega) (by omega)).cell (i:=4) rfl
     have d5:=(HX8.out.old HB.out.1 (λ e=>by have:=(HF.out _ e).2;omega) (by omega)).cell (i:=5) rfl
     have d6:=(HX8.out.old HB.out.1 (λ e=>by have:=(HF.out _ e).2;omega) (by omega)).cell (i:=6) rfl
     have u0:=HX8.out.box.cell (i:=0) rfl
     go_wp2_with fail
     refine (HRec.out w8 U2 V7 e0 pe ce ec HE0.out.1.1.2 HX8.out.us HWu2.out HBw8.out HBd.out.2.2.1 HBd.out.2.2.2).mono ?_;rintro e w9 ⟨rfl,V9,hu9,hp9⟩
     have HX9:=Lib.hid (HX8.out.call hu9 hp9)
     clear hu9 hp9 u0 d0 d1 d2 d3 d4 d5 d6 s14
     have u0:=HX9.out.box.cell (i:=0) rfl
     have u1:=HX9.out.box.frz 0
     go_wp2_with fail
     go_roundw
     case rel =>
      refine ⟨i+1,r0,_,V9,by go_num,?_,HE0.out.2.2.2.1,HE0.out.1.2,HE0.out.2.1.2.2.2.2.2,WU.adds _ HWu2.out,HX9.out.store,?_⟩
      ·have:=HL.out.1;simp only [SL.len] at this;omega
      ·have:=HL.out.2.2.2.1
       rw [flatS,writeAts_cons,writeAts_app,writeAts_app,addsP_app,addsP_app,addsP_app] at this
       have hq:(if fAB a b (SH.k ⟨sk,ss,slo,swd,sas,idx,⟨k,hw,s,lo⟩,va⟩)=true then [SH.wr ⟨sk,ss,slo,swd,sas,idx,⟨k,hw,s,lo⟩,va⟩] else [])=(if q=true then [SH.wr ⟨sk,ss,slo,swd,sas,idx,⟨k,hw,s,lo⟩,va⟩] else []):=by rw [←HQ.out]
       rw [hq,HU1.out,HU2.out] at this
       exact this
     case measure=>simp [intOf];have:=HE0.out.2.2.2.2;omega
  ·have hie:i=ln:=by omega
   have hrn:r = .nil:=by
    cases r with
    | nil=>rfl
    | cons h0 b0 e0 r0=>simp only [SL.len] at hil;omega
   subst hrn
   have hfu:u'=R:=by simpa [flatS,addsP,writeAts] using hRr
   subst hfu
   have hii:¬(i:Int)<(ln:Int):=by omega
   have HX:=Lib.hid hXr
   have HBr:Hid (Blk wr (w.heap.size+1+1) 86 [.slice none 0 0]):=Lib.hid (hXr.old HB.out.2.1 (λ e=>by have:=(HF.out _ e).2;omega) (by omega))
   have u0:=hXr.box.cell (i:=0) rfl
   have rz0:=HBr.out.cell (i:=0) rfl
   have rz1:=HBr.out.frz 0
   clear hTr hAl hrw hWu hRr hlow hbw hlt hie hil hXr
   go_wp2_with fail
   have hfn:=HX.out.fin HB.out.2.2.1 (λ b hb=>(HF.out b hb).2) (by omega) (br:=w.heap.size+1+1) (by omega) HB.out.2.1.lt (by omega) (.slice (some ⟨g,0,none⟩) N N)
   have e0:(wr.setCell ⟨w.heap.size+1+1,0,none⟩ (.slice (some ⟨g,0,none⟩) N N)).cell? ⟨w.heap.size+1+1,0,none⟩=some (.slice (some ⟨g,0,none⟩) N N):=(HBr.out.set 0 _).cell (i:=0) rfl
   refine bodyPost_ret (v := .agg #[usV g N]) (by simp [results,Try.results35,go_sem,e0]) rfl ⟨rfl,?_⟩
   exact hfn
theorem wr_all {a b:Nat} {base:Nat} {p:Option Addr} {c:Nat} {l:List Sg} {v1 v2 v3 v4 v5 v6:Value}:∀ {t:SL},t.wf l.length→AllS (λ _ x e=>WrC a b base p c l v1 v2 v3 v4 v5 v6 x∧WrC a b base p c l v1 v2 v3 v4 v5 v6 e) t
 | .nil,_=>trivial
 | .cons h x e r,hw=>⟨⟨wr_step hw.2.2.2.1 hw.2.1 (wr_all hw.2.2.2.1),wr_step hw.2.2.2.2.1 hw.2.2.1 (wr_all hw.2.2.2.2.1)⟩,wr_all hw.2.2.2.2.2⟩
end Go.Proofs.Ytlklleaocbnbcaa
