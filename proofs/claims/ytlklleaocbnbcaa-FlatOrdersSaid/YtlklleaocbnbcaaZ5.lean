import Derived.Test.YtlklleaocbnbcaaZ4
namespace Go.Proofs.Ytlklleaocbnbcaa
set_option linter.unusedVariables false
open Go.RowKit
set_option maxRecDepth 100000 in
set_option maxHeartbeats 8000000 in
theorem rexpr_step {base:Nat} {p:Option Addr} {c:Nat} {l:List Sg} {v1 v2 v3 v4 v5 v6:Value} {h:TH} {a:TL} (hwf:(TL.cons h a .nil).wf l.length) (ih:AllT (ExC base p c l v1 v2 v3 v4 v5 v6) a):ExC base p c l v1 v2 v3 v4 v5 v6 h a:=by
 intro g w u V cs hus hwu hs ht
 obtain ⟨op,sg,val,vl,av,ac,rfl,hv,hvl,hr,ha⟩:=tr_one ht
 obtain ⟨pv,cv,rfl,hcv⟩:=hv.form
 obtain ⟨pa,ca,rfl,hca⟩:=hr.form
 obtain ⟨k,hw,s,lo⟩:=h
 obtain ⟨N,hN⟩:∃ N,l.length=N:=⟨_,rfl⟩
 obtain ⟨vn,hvn⟩:∃ vn,vl.length=vn:=⟨_,rfl⟩
 obtain ⟨an,han⟩:∃ an,a.len=an:=⟨_,rfl⟩
 have hN8:=hs.le
 rw [hN] at hN8
 unfold tcells
 dsimp only
 rw [hN,hvn,han]
 have hb4:Below w.heap.size w ((((w.alloc (.cells #[.slice p N c,v1,v2,v3,v4,v5,v6] 31)).alloc (.cells #[usV g N] 86)).alloc (.cells #[.int .i64 (k:Nat),.int .i64 op,.int .i64 (hw:Nat),.int .i64 (s:Nat),.int .i64 (lo:Nat),.bool sg,.slice pv vn cv,.slice pa an ca] 76)).alloc (.cells #[.slice none 0 0] 86)):=Below.next (Below.next (Below.next (Below.new _ _) (Below.new _ _)) (Below.new _ _)) (Below.new _ _)
 have hd:Blk ((((w.alloc (.cells #[.slice p N c,v1,v2,v3,v4,v5,v6] 31)).alloc (.cells #[usV g N] 86)).alloc (.cells #[.int .i64 (k:Nat),.int .i64 op,.int .i64 (hw:Nat),.int .i64 (s:Nat),.int .i64 (lo:Nat),.bool sg,.slice pv vn cv,.slice pa an ca] 76)).alloc (.cells #[.slice none 0 0] 86)) w.heap.size 31 [.slice p N c,v1,v2,v3,v4,v5,v6]:=(Blk.new (w:=w) 31 [.slice p N c,v1,v2,v3,v4,v5,v6]).next (Below.next (Below.next (Below.new _ _) (Below.new _ _)) (Below.new _ _))
 have hu4:Blk ((((w.alloc (.cells #[.slice p N c,v1,v2,v3,v4,v5,v6] 31)).alloc (.cells #[usV g N] 86)).alloc (.cells #[.int .i64 (k:Nat),.int .i64 op,.int .i64 (hw:Nat),.int .i64 (s:Nat),.int .i64 (lo:Nat),.bool sg,.slice pv vn cv,.slice pa an ca] 76)).alloc (.cells #[.slice none 0 0] 86)) (w.heap.size+1) 86 [usV g N]:=by
  have:=(Blk.new (w:=w.alloc (.cells #[.slice p N c,v1,v2,v3,v4,v5,v6] 31)) 86 [usV g N]).next (Below.next (Below.new _ (.cells #[.int .i64 (k:Nat),.int .i64 op,.int .i64 (hw:Nat),.int .i64 (s:Nat),.int .i64 (lo:Nat),.bool sg,.slice pv vn cv,.slice pa an ca] 76)) (Below.new _ (.cells #[.slice none 0 0] 86)))
  rw [World.size_alloc] at this
  exact this
 have he4:Blk ((((w.alloc (.cells #[.slice p N c,v1,v2,v3,v4,v5,v6] 31)).alloc (.cells #[usV g N] 86)).alloc (.cells #[.int .i64 (k:Nat),.int .i64 op,.int .i64 (hw:Nat),.int .i64 (s:Nat),.int .i64 (lo:Nat),.bool sg,.slice pv vn cv,.slice pa an ca] 76)).alloc (.cells #[.slice none 0 0] 86)) (w.heap.size+1+1) 76 [.int .i64 (k:Nat),.int .i64 op,.int .i64 (hw:Nat),.int .i64 (s:Nat),.int .i64 (lo:Nat),.bool sg,.slice pv vn cv,.slice pa an ca]:=by
  have:=(Blk.new (w:=(w.alloc (.cells #[.slice p N c,v1,v2,v3,v4,v5,v6] 31)).alloc (.cells #[usV g N] 86)) 76 [.int .i64 (k:Nat),.int .i64 op,.int .i64 (hw:Nat),.int .i64 (s:Nat),.int .i64 (lo:Nat),.bool sg,.slice pv vn cv,.slice pa an ca]).next (Below.new _ (.cells #[.slice none 0 0] 86))
  rw [World.size_alloc,World.size_alloc] at this
  exact this
 have hr4:Blk ((((w.alloc (.cells #[.slice p N c,v1,v2,v3,v4,v5,v6] 31)).alloc (.cells #[usV g N] 86)).alloc (.cells #[.int .i64 (k:Nat),.int .i64 op,.int .i64 (hw:Nat),.int .i64 (s:Nat),.int .i64 (lo:Nat),.bool sg,.slice pv vn cv,.slice pa an ca] 76)).alloc (.cells #[.slice none 0 0] 86)) (w.heap.size+1+1+1) 86 [.slice none 0 0]:=by
  have:=Blk.new (w:=((w.alloc (.cells #[.slice p N c,v1,v2,v3,v4,v5,v6] 31)).alloc (.cells #[usV g N] 86)).alloc (.cells #[.int .i64 (k:Nat),.int .i64 op,.int .i64 (hw:Nat),.int .i64 (s:Nat),.int .i64 (lo:Nat),.bool sg,.slice pv vn cv,.slice pa an ca] 76)) 86 [.slice none 0 0]
  rw [World.size_alloc,World.size_alloc,World.size_alloc] at this
  exact this
 have hX:ExS base g (w.heap.size+1) ((((w.alloc (.cells #[.slice p N c,v1,v2,v3,v4,v5,v6] 31)).alloc (.cells #[usV g N] 86)).alloc (.cells #[.int .i64 (k:Nat),.int .i64 op,.int .i64 (hw:Nat),.int .i64 (s:Nat),.int .i64 (lo:Nat),.bool sg,.slice pv vn cv,.slice pa an ca] 76)).alloc (.cells #[.slice none 0 0] 86)) ((((w.alloc (.cells #[.slice p N c,v1,v2,v3,v4,v5,v6] 31)).alloc (.cells #[usV g N] 86)).alloc (.cells #[.int .i64 (k:Nat),.int .i64 op,.int .i64 (hw:Nat),.int .i64 (s:Nat),.int .i64 (lo:Nat),.bool sg,.slice pv vn cv,.slice pa an ca] 76)).alloc (.cells #[.slice none 0 0] 86)) V u V N:=ExS.start hus hb4 hu4 (by omega)
 have hadd:∀ (W:World) (u':Us) (V':Nat→Value) (at':Atom),UsM base g W u' V'→WU (sizes l) u'→Below base w W→at'.s<N→at'.lo≤1000→at'.w≤1000→Calls Try.prog 59 #[.agg #[.slice p N c,v1,v2,v3,v4,v5,v6],.agg #[usV g N],.int .i64 at'.s,.int .i64 at'.lo,.int .i64 at'.w] W (AddR base g N W V' (addP (sizes l) u' at')):=λ W u' V' at' h1 h2 h3 h4 h5 h6=>by
  have:=radd_any (v1:=v1) (v2:=v2) (v3:=v3) (v4:=v4) (v5:=v5) (v6:=v6) h1 h2 (hs.low h3) at' (by omega) h5 h6
  rw [hN] at this
  exact this
 have hex:∀ (W:World) (u':Us) (V':Nat→Value) (h0:TH) (b0:TL) (cs':List Value),ExC base p c l v1 v2 v3 v4 v5 v6 h0 b0→UsM base g W u' V'→WU (sizes l) u'→Below base w W→TR (λ k=>k<base) w (.cons h0 b0 .nil) cs'→Calls Try.prog 73 #[.agg #[.slice p N c,v1,v2,v3,v4,v5,v6],.agg #[usV g N],.agg cs'.toArray] W (AddR base g N W V' (addsP (sizes l) u' (atT h0 b0))):=λ W u' V' h0 b0 cs' h1 h2 h3 h4 h5=>by
  have:=h1 g W u' V' cs' h2 h3 (hs.low h4) (h5.turn ER.stay λ k hk _=>⟨hk,h4.block k hk⟩)
  rw [hN] at this
  exact this
 have HEx:=Lib.hid hex
 have hf0:∀ b,FV g V b→base≤b∧b<w.heap.size:=hus.flt
 have hsz:=hus.size
 obtain ⟨R,hR⟩:∃ R,addsP (sizes l) u (atT ⟨k,hw,s,lo⟩ a)=R:=⟨_,rfl⟩
 rw [hR]
 have H:=Lib.hid (And.intro hwf (And.intro hwu (And.intro hN8 (And.intro hN (And.intro han hsz)))))
 have HT:=Lib.hid (And.intro hr (And.intro ha ht))
 have HI:=Lib.hid ih
 have HB:=Lib.hid (And.intro hd (And.intro he4 (And.intro hr4 (And.intro hb4 hX))))
 have HAdd:=Lib.hid hadd
 have HF:=Lib.hid hf0
 have HR:=Lib.hid hR
 have HSg:=Lib.hid hs
 have hq:∃ q:Bool,(decide (k=5) && decide (a.hk=2))=q:=⟨_,rfl⟩
 obtain ⟨q,hq⟩:=hq
 have HQ:=Lib.hid hq
 have hN0:=Lib.hid hN
 clear hus hwf hwu ih hs hv hvl hr ha hvn han hcv hca ht hN hN8 hd hu4 he4 hr4 hX hadd hex hf0 hsz hR hb4 hq
 go_enter Try.func73,Try.ntmps73
 go_upto_region 1 with fail
 generalize hW4:((((w.alloc (.cells #[.slice p N c,v1,v2,v3,v4,v5,v6] 31)).alloc (.cells #[usV g N] 86)).alloc (.cells #[.int .i64 (k:Nat),.int .i64 op,.int .i64 (hw:Nat),.int .i64 (s:Nat),.int .i64 (lo:Nat),.bool sg,.slice pv vn cv,.slice pa an ca] 76)).alloc (.cells #[.slice none 0 0] 86))=w4 at *
 clear hW4
 have e0:=HB.out.2.1.cell (i:=0) rfl
 have e2:=HB.out.2.1.cell (i:=2) rfl
 have e3:=HB.out.2.1.cell (i:=3) rfl
 have e4:=HB.out.2.1.cell (i:=4) rfl
 have e7:=HB.out.2.1.cell (i:=7) rfl
 have hra:RO w4 (.slice pa an ca) 8 an ac:=by
  have:=(HT.out.1.ro.below HB.out.2.2.2.1)
  rw [H.out.2.2.2.2.1] at this
  exact this
 have HRa:=Lib.hid hra
 clear hra
 go_cut [18] from 19 (λ v18 wx=>v18 = .bool q∧wx=w4)
 case first =>
  by_cases hk:k=5
  ·subst hk
   have hne:a ≠ .nil:=H.out.1.1 rfl
   obtain ⟨a0,b0,r0,rfl⟩:∃ a0 b0 r0,a = .cons a0 b0 r0:=by
    cases a with
    | nil=>exact absurd rfl hne
    | cons a0 b0 r0=>exact ⟨a0,b0,r0,rfl⟩
   obtain ⟨op1,sg1,val1,vl1,av1,bc1,hat,_⟩:=tr_at (i:=0) (by simpa using HT.out.2.1)
   have h0:=hat 0 (by omega)
   obtain ⟨b,o,rfl⟩:=HRa.out.sl h0
   have c0:=HRa.out.cell h0
   have hq2:q=decide (a0.k=2):=by rw [←HQ.out];show (decide (5=5) && decide (a0.k=2))=_;simp
   have hn0:(0:Int)<(an:Int):=by have:=H.out.2.2.2.2.1;simp only [TL.len] at this;omega
   have HQ2:=Lib.hid hq2
   simp only [Nat.zero_mul,Nat.add_zero] at c0
   clear hne hat h0 hq2
   go_wp2_with fail
   go_meet
   refine ⟨?_,rfl⟩
   rw [HQ2.out]
   by_cases h2:a0.k=2
   ·simp [h2]
   ·simp [h2]
    omega
  ·have hki:((k:Int) == 5)=false:=by simp;omega
   have hq2:q=false:=by rw [←HQ.out,decide_eq_false hk,Bool.false_and]
   have HQ2:=Lib.hid hq2
   clear hk hq2
   go_wp2_with fail
   go_meet
   exact ⟨by rw [HQ2.out],rfl⟩
 case rest =>
  obtain ⟨rfl,hwc⟩:=hcut
  have hwc2:=hwc.symm
  clear hwc
  subst hwc2
  cases q
  ·clear e2 e4
   go_upto_region 3 with fail
   go_cut [38] from 39 (λ v38 wx=>v38 = .bool (decide (k=2) || decide (k=3))∧wx=w4)
   case first =>
    by_cases hk2:k=2
    ·subst hk2
     go_wp2_with fail
     go_meet
     exact ⟨by simp,rfl⟩
    ·have hk2i:((k:Int) == 2)=false:=by simp;omega
     by_cases hk3:k=3
     ·subst hk3
      go_wp2_with fail
      go_meet
      exact ⟨by simp,rfl⟩
     ·have hk3i:((k:Int) == 3)=false:=by simp;omega
      have HK:=Lib.hid (And.intro hk2 hk3)
      clear hk2 hk3
      go_wp2_with fail
      go_meet
      exact ⟨by simp [HK.out.1,HK.out.2],rfl⟩
   case rest =>
    obtain ⟨rfl,hwc⟩:=hcut
    have hwc2:=hwc.symm
    clear hwc
    subst hwc2
    go_upto_if 38 with fail
    go_cut [] from 38 (λ wx=>∃ V',ExS base g (w.heap.size+1) w4 wx V (addsP (sizes l) u (if k=2∨k=3 then [⟨s,0,1000⟩] else [])) V' N)
    case first =>
     by_cases hk:k=2∨k=3
     ·have hsN:s<N:=by have:=H.out.1.2.1 hk;rw [H.out.2.2.2.1] at this;exact this
      have d0:=HB.out.1.cell (i:=0) rfl
      have d1:=HB.out.1.cell (i:=1) rfl
      have d2:=HB.out.1.cell (i:=2) rfl
      have d3:=HB.out.1.cell (i:=3) rfl
      have d4:=HB.out.1.cell (i:=4) rfl
      have d5:=HB.out.1.cell (i:=5) rfl
      have d6:=HB.out.1.cell (i:=6) rfl
      have u0:=HB.out.2.2.2.2.box.cell (i:=0) rfl
      have HK:=Lib.hid hk
      have hkb:(decide (k=2) || decide (k=3))=true:=by rcases hk with rfl | rfl <;> simp
      rw [hkb]
      have HS:=Lib.hid hsN
      clear hsN hk hkb
      (
       go_wp2_with fail
       refine (HAdd.out w4 u V ⟨s,0,1000⟩ HB.out.2.2.2.2.us H.out.2.1 (HB.out.2.2.2.1.mono H.out.2.2.2.2.2) HS.out (by show (0:Nat)≤1000;omega) (by show (1000:Nat)≤1000;omega)).mono ?_;rintro e w6 ⟨rfl,V6,hu6,hp6⟩
       have HX6:=Lib.hid (HB.out.2.2.2.2.call hu6 hp6)
       clear hu6 hp6 u0 d0 d1 d2 d3 d4 d5 d6
       have u0:=HX6.out.box.cell (i:=0) rfl
       have u1:=HX6.out.box.frz 0
       go_wp2_with fail
       go_meet
       exact ⟨V6,by rw [if_pos HK.out,addsP_one];exact HX6.out.store⟩)
     ·have hkb:(decide (k=2) || decide (k=3))=false:=by
       rw [Bool.eq_false_iff];intro e;simp at e;exact hk e
      rw [hkb]
      have HK:=Lib.hid hk
      clear hk hkb
      go_wp2_with fail
      go_meet
      exact ⟨V,by rw [if_neg HK.out];exact HB.out.2.2.2.2⟩
    case rest =>
     obtain ⟨V1,hX1⟩:=hcut
     have HX1:=Lib.hid hX1
     have hRl:addsP (sizes l) (addsP (sizes l) u (if k=2∨k=3 then [⟨s,0,1000⟩] else [])) (atL a)=R:=by
      rw [←HR.out,←addsP_app]
      have h5:¬(k=5∧a.hk=2):=λ e=>by have:=HQ.out;rw [decide_eq_true e.1,decide_eq_true e.2] at this;cases this
      unfold atT atH
      rw [if_neg h5]
     have HRl:=Lib.hid hRl
     obtain ⟨U1,hU1⟩:∃ U1,addsP (sizes l) u (if k=2∨k=3 then [⟨s,0,1000⟩] else [])=U1:=⟨_,rfl⟩
     have hwu1:WU (sizes l) U1:=by rw [←hU1];exact WU.adds _ H.out.2.1
     rw [hU1] at HX1 HRl
     have HWu1:=Lib.hid hwu1
     clear hX1 hRl hU1 hwu1 e0 e3 e7
     go_wp2_with fail
     go_loopw [7] (λ iv wr=>∃ (i:Nat) (r:TL) (u':Us) (V':Nat→Value),iv = .int .i64 i∧i+r.len=an∧TR (λ k=>k<base) w r (ac.drop (i*8))∧AllT (ExC base p c l v1 v2 v3 v4 v5 v6) r∧WU (sizes l) u'∧ExS base g (w.heap.size+1) w4 wr V u' V' N∧addsP (sizes l) u' (atL r)=R) (λ iv _=>an-(intOf iv).toNat)
     case atStart=>exact ⟨0,a,U1,V1,rfl,by rw [Nat.zero_add];exact H.out.2.2.2.2.1,by simpa using HT.out.2.1,HI.out,HWu1.out,HX1.out,HRl.out⟩
     case round =>
      obtain ⟨i,r,u',V',rfl,hil,hTr,hAl,hWu,hXr,hRr⟩:=hrel
      have e7:=(hXr.old HB.out.2.1 (λ e=>by have:=(HF.out _ e).2;omega) (by omega)).cell (i:=7) rfl
      have hlow:=hXr.low (λ b hb=>(HF.out b hb).1) (by have:=H.out.2.2.2.2.2;omega) (Nat.le_trans H.out.2.2.2.2.2 HB.out.2.2.2.1.size)
      have hbw:=(HB.out.2.2.2.1.mono H.out.2.2.2.2.2).trans hlow
      have HL:=Lib.hid (And.intro hil (And.intro hWu (And.intro hXr (And.intro hRr hbw))))
      by_cases hlt:i<an
      ·obtain ⟨h0,b0,r0,rfl⟩:∃ h0 b0 r0,r = .cons h0 b0 r0:=by
        cases r with
        | nil=>simp only [TL.len] at hil;omega
        | cons h0 b0 r0=>exact ⟨h0,b0,r0,rfl⟩
       obtain ⟨op0,sg0,val0,vl0,av0,bc0,hat,hv0,hr0,_,hone,hrest⟩:=tr_at hTr
       obtain ⟨pv0,cv0,rfl,_⟩:=hv0.form
       obtain ⟨pa0,ca0,rfl,_⟩:=hr0.form
       have hra:RO wr (.slice pa an ca) 8 an ac:=by
        have:=(HT.out.1.turn (A':=λ k=>k<base) (w':=wr) λ k hk _=>⟨hk,HL.out.2.2.2.2.block k hk⟩).ro
        rw [H.out.2.2.2.2.1] at this
        exact this
       obtain ⟨b,o,rfl⟩:=hra.sl (hat 0 (by omega))
       have c0:=hra.cell (hat 0 (by omega))
       have c1:=hra.cell (hat 1 (by omega))
       have c2:=hra.cell (hat 2 (by omega))
       have c3:=hra.cell (hat 3 (by omega))
       have c4:=hra.cell (hat 4 (by omega))
       have c5:=hra.cell (hat 5 (by omega))
       have c6:=hra.cell (hat 6 (by omega))
       have c7:=hra.cell (hat 7 (by omega))
       rw [←Nat.add_assoc] at c1 c2 c3 c4 c5 c6 c7
       rw [Nat.add_zero] at c0
       obtain ⟨k0,hw0,s0,lo0⟩:=h0
       dsimp only [tcells] at c0 c1 c2 c3 c4 c5 c6 c7
       have d0:=(hXr.old HB.out.1 (λ e=>by have:=(HF.out _ e).2;omega) (by omega)).cell (i:=0) rfl
       have d1:=(hXr.old HB.out.1 (λ e=>by have:=(HF.out _ e).2;omega) (by omega)).cell (i:=1) rfl
       have d2:=(hXr.old HB.out.1 (λ e=>by have:=(HF.out _ e).2;omega) (by omega)).cell (i:=2) rfl
       have d3:=(hXr.old HB.out.1 (λ e=>by have:=(HF.out _ e).2;omega) (by omega)).cell (i:=3) rfl
       have d4:=(hXr.old HB.out.1 (λ e=>by have:=(HF.out _ e).2;omega) (by omega)).cell (i:=4) rfl
       have d5:=(hXr.old HB.out.1 (λ e=>by have:=(HF.out _ e).2;omega) (by omega)).cell (i:=5) rfl
       have d6:=(hXr.old HB.out.1 (λ e=>by have:=(HF.out _ e).2;omega) (by omega)).cell (i:=6) rfl
       have u0:=hXr.box.cell (i:=0) rfl
       have hii:(i:Int)<(an:Int):=by omega
       have hi0:(0:Int)≤(i:Int):=by omega
       have hiw:IntKind.i64.wrap ((i:Int)+1)=((i+1:Nat):Int):=by rw [i64_of (by have:=H.out.1.2.2.2.2.2.2.1;have:=H.out.2.2.2.2.1;omega)];omega
       have HE0:=Lib.hid (And.intro hAl (And.intro hone (And.intro hrest hlt)))
       clear hat hv0 hr0 hone hrest hra hXr hTr hAl hWu hRr hil hlow hbw hlt
       go_upto_region 8 with fail
       refine wp_region_still_tail 7 (by kernel_rfl) (by kernel_rfl) ?_
       simp only [List.take_succ_cons,List.take_zero,List.drop_succ_cons,List.drop_zero]
       change wpStill _ _ wr.drew (λ a'=>wpList _ _ _ _ a' wr.drew) _ _
       have HX5:Hid (ExS base g (w.heap.size+1) w4 wr.drew V u' V' N∧Below base w wr.drew):=Lib.hid ⟨HL.out.2.2.1.below (Below.refl _ _).drew,HL.out.2.2.2.2.trans (Below.refl _ _).drew⟩
       replace c0:wr.drew.cell? _=_:=c0
       replace c1:wr.drew.cell? _=_:=c1
       replace c2:wr.drew.cell? _=_:=c2
       replace c3:wr.drew.cell? _=_:=c3
       replace c4:wr.drew.cell? _=_:=c4
       replace c5:wr.drew.cell? _=_:=c5
       replace c6:wr.drew.cell? _=_:=c6
       replace c7:wr.drew.cell? _=_:=c7
       replace d0:wr.drew.cell? _=_:=d0
       replace d1:wr.drew.cell? _=_:=d1
       replace d2:wr.drew.cell? _=_:=d2
       replace d3:wr.drew.cell? _=_:=d3
       replace d4:wr.drew.cell? _=_:=d4
       replace d5:wr.drew.cell? _=_:=d5
       replace d6:wr.drew.cell? _=_:=d6
       replace u0:wr.drew.cell? _=_:=u0
       replace e7:wr.drew.cell? _=_:=e7
       generalize wr.drew=w5 at *
       repeat still_step
       try refine wpStill_nil ?_
       clear c0 c1 c2 c3 c4 c5 c6 c7 d0 d1 d2 d3 d4 d5 d6 u0 e7
       go_wp2_with fail
       refine (HEx.out w5 u' V' _ b0 _ HE0.out.1.1 HX5.out.1.us HL.out.2.1 HX5.out.2 HE0.out.2.1).mono ?_;rintro e w6 ⟨rfl,V6,hu6,hp6⟩
       have HX6:=Lib.hid (HX5.out.1.call hu6 hp6)
       clear hu6 hp6
       have u0:=HX6.out.box.cell (i:=0) rfl
       have u1:=HX6.out.box.frz 0
       go_wp2_with fail
       go_roundw
       case rel =>
        refine ⟨i+1,r0,_,V6,by go_num,?_,HE0.out.2.2.1,HE0.out.1.2,WU.adds _ HL.out.2.1,HX6.out.store,?_⟩
        ·have:=HL.out.1;simp only [TL.len] at this;omega
        ·have:=HL.out.2.2.2.1
         rw [atL,addsP_app] at this
         exact this
       case measure=>simp [intOf];have:=HE0.out.2.2.2;omega
      ·have hie:i=an:=by omega
       have hrn:r = .nil:=by
        cases r with
        | nil=>rfl
        | cons h0 b0 r0=>simp only [TL.len] at hil;omega
       subst hrn
       have hfu:u'=R:=by simpa [atL,addsP] using hRr
       subst hfu
       have hii:¬(i:Int)<(an:Int):=by omega
       have HX:=Lib.hid hXr
       have HBr:Hid (Blk wr (w.heap.size+1+1+1) 86 [.slice none 0 0]):=Lib.hid (hXr.old HB.out.2.2.1 (λ e=>by have:=(HF.out _ e).2;omega) (by omega))
       have u0:=hXr.box.cell (i:=0) rfl
       have rz0:=HBr.out.cell (i:=0) rfl
       have rz1:=HBr.out.frz 0
       clear hTr hAl hWu hRr hlow hbw hlt hie hil hXr
       go_wp2_with fail
       have hfn:=HX.out.fin HB.out.2.2.2.1 (λ b hb=>(HF.out b hb).2) (by omega) (br:=w.heap.size+1+1+1) (by omega) HB.out.2.2.1.lt (by omega) (.slice (some ⟨g,0,none⟩) N N)
       have e0:(wr.setCell ⟨w.heap.size+1+1+1,0,none⟩ (.slice (some ⟨g,0,none⟩) N N)).cell? ⟨w.heap.size+1+1+1,0,none⟩=some (.slice (some ⟨g,0,none⟩) N N):=(HBr.out.set 0 _).cell (i:=0) rfl
       refine bodyPost_ret (v := .agg #[usV g N]) (by simp [results,Try.results73,go_sem,e0]) rfl ⟨rfl,?_⟩
       exact hfn
  ·have hk:k=5∧a.hk=2:=by have:=HQ.out;simp at this;exact this
   obtain ⟨rfl,hk2⟩:=hk
   obtain ⟨a0,b0,r0,rfl⟩:∃ a0 b0 r0,a = .cons a0 b0 r0:=by
    cases a with
    | nil=>simp [TL.hk] at hk2
    | cons a0 b0 r0=>exact ⟨a0,b0,r0,rfl⟩
   obtain ⟨op1,sg1,val1,vl1,av1,bc1,hat,_⟩:=tr_at (i:=0) (by simpa using HT.out.2.1)
   have h0:=hat 3 (by omega)
   obtain ⟨b,o,rfl⟩:=HRa.out.sl h0
   have c3:=HRa.out.cell h0
   simp only [Nat.zero_mul,Nat.zero_add] at c3
   obtain ⟨k1,w1,s1,lo1⟩:=a0
   have hk1:k1=2:=hk2
   have hsN:s1<N:=by have:=H.out.1.2.2.2.2.2.2.2.1.2.1 (.inl hk1);rw [H.out.2.2.2.1] at this;exact this
   have hb1:lo≤1000∧hw≤1000:=⟨H.out.1.2.2.2.2.2.1,H.out.1.2.2.2.1⟩
   have hn0:(0:Int)<(an:Int):=by have:=H.out.2.2.2.2.1;simp only [TL.len] at this;omega
   have HS:=Lib.hid (And.intro hsN (And.intro hk1 hb1))
   have hz1:((0:Int)<(an:Int))=True:=eq_true hn0
   have hz2:(0<an)=True:=eq_true (by omega)
   have d0:=HB.out.1.cell (i:=0) rfl
   have d1:=HB.out.1.cell (i:=1) rfl
   have d2:=HB.out.1.cell (i:=2) rfl
   have d3:=HB.out.1.cell (i:=3) rfl
   have d4:=HB.out.1.cell (i:=4) rfl
   have d5:=HB.out.1.cell (i:=5) rfl
   have d6:=HB.out.1.cell (i:=6) rfl
   have u0:=HB.out.2.2.2.2.box.cell (i:=0) rfl
   clear hat h0 hk2 hk1 hsN hb1 e0 e3
   go_upto_region 2 with fail
   refine wp_region_still_tail 11 (by kernel_rfl) (by kernel_rfl) ?_
   simp only [List.take_succ_cons,List.take_zero,List.drop_succ_cons,List.drop_zero]
   change wpStill _ _ w4.drew (λ a'=>wpList _ _ _ _ a' w4.drew) _ _
   have HX5:Hid (ExS base g (w.heap.size+1) w4 w4.drew V u V N∧Below base w w4.drew):=Lib.hid ⟨HB.out.2.2.2.2.below (Below.refl _ _).drew,(HB.out.2.2.2.1.mono H.out.2.2.2.2.2).trans (Below.refl _ _).drew⟩
   replace c3:w4.drew.cell? _=_:=c3
   replace d0:w4.drew.cell? _=_:=d0
   replace d1:w4.drew.cell? _=_:=d1
   replace d2:w4.drew.cell? _=_:=d2
   replace d3:w4.drew.cell? _=_:=d3
   replace d4:w4.drew.cell? _=_:=d4
   replace d5:w4.drew.cell? _=_:=d5
   replace d6:w4.drew.cell? _=_:=d6
   replace u0:w4.drew.cell? _=_:=u0
   replace e2:w4.drew.cell? _=_:=e2
   replace e4:w4.drew.cell? _=_:=e4
   replace e7:w4.drew.cell? _=_:=e7
   obtain ⟨w5,hw5⟩:∃ w5,w4.drew=w5:=⟨_,rfl⟩
   rw [hw5] at c3 d0 d1 d2 d3 d4 d5 d6 u0 e2 e4 e7 HX5 ⊢
   clear hw5
   repeat still_step
   try refine wpStill_nil ?_
   clear c3 d0 d1 d2 d3 d4 d5 d6 u0 e2 e4 e7
   go_wp2_with fail
   refine (HAdd.out w5 u V ⟨s1,lo,hw⟩ HX5.out.1.us H.out.2.1 HX5.out.2 HS.out.1 HS.out.2.2.1 HS.out.2.2.2).mono ?_;rintro e w6 ⟨rfl,V6,hu6,hp6⟩
   have HX6:=Lib.hid (HX5.out.1.call hu6 hp6)
   clear hu6 hp6
   have HBr:Hid (Blk w6 (w.heap.size+1+1+1) 86 [.slice none 0 0]):=Lib.hid (HX6.out.old HB.out.2.2.1 (λ e=>by have:=(HF.out _ e).2;omega) (by omega))
   have rz0:=HBr.out.cell (i:=0) rfl
   have rz1:=HBr.out.frz 0
   go_wp2_with fail
   have hfn:=HX6.out.fin HB.out.2.2.2.1 (λ b hb=>(HF.out b hb).2) (by omega) (br:=w.heap.size+1+1+1) (by omega) HB.out.2.2.1.lt (by omega) (.slice (some ⟨g,0,none⟩) N N)
   have e0:(w6.setCell ⟨w.heap.size+1+1+1,0,none⟩ (.slice (some ⟨g,0,none⟩) N N)).cell? ⟨w.heap.size+1+1+1,0,none⟩=some (.slice (some ⟨g,0,none⟩) N N):=(HBr.out.set 0 _).cell (i:=0) rfl
   refine bodyPost_ret (v := .agg #[usV g N]) (by simp [results,Try.results73,go_sem,e0]) rfl ⟨rfl,?_⟩
   rw [←HR.out]
   have hat:atT ⟨5,hw,s,lo⟩ (.cons ⟨k1,w1,s1,lo1⟩ b0 r0) = [⟨s1,lo,hw⟩]:=by unfold atT atH;rw [if_pos ⟨rfl,HS.out.2.1⟩];rfl
   rw [hat]
   exact hfn
end Go.Proofs.Ytlklleaocbnbcaa
