import Derived.Test.YtlklleaocbnbcaaZ31
import Derived.Test.YtlklleaocbnbcaaZ33
namespace Go.Proofs.Ytlklleaocbnbcaa
set_option linter.unusedVariables false
open Go.RowKit Go.Sort
def sure0 (u:Us):Us:=u.map λ r=>List.replicate r.length false
theorem sure0_len (u:Us):(sure0 u).length=u.length:=by simp [sure0]
theorem sure0_row (u:Us) (k:Nat):(sure0 u).getD k []=List.replicate (u.getD k []).length false:=by
 unfold sure0
 rw [List.getD,List.getElem?_map,List.getD]
 cases u[k]? <;> rfl
def latP (l:List Sg) (ps:List Pr) (i:Nat):Prop :=
 (ps.getD i default).kind=2→latC l (ps.getD i default).body (sure0 (writesP (sizes l) kAll (ps.getD i default).body))∧Till (λ k=>((latS (ps.getD i default).body (sure0 (writesP (sizes l) kAll (ps.getD i default).body))).getD k []).contains false=false) l.length
def latchesC (l:List Sg) (ps:List Pr):Prop:=Till (λ i=>latP l ps i) ps.length
theorem Ck.nest {ab:Nat} {h:AHd} {w0 W W':World} {e0:Int} {ls:Bx} {C C2:Prop} (hc:Ck ab h w0 e0 ls C W) {G:Nat→Prop} (ha:∀ p1 p2 p3 e:Int,Blk W ab 103 (h.cells p1 p2 p3 e)→∃ q1 q2 q3 e':Int,Blk W' ab 103 (h.cells q1 q2 q3 e')∧(e'=0↔e=0∧C2)) (hu:Upd G G W W')
  (hG:∀ k,G k→k=ab∨(w0.heap.size≤k∧∀ x∈ls,x.1≠k)):Ck ab h w0 e0 ls (C∧C2) W':=by
 obtain ⟨p1,p2,p3,e,h1,h2⟩:=hc.an
 obtain ⟨q1,q2,q3,e',h3,h4⟩:=ha _ _ _ _ h1
 refine ⟨⟨q1,q2,q3,e',h3,by rw [h4,h2];exact and_assoc⟩,⟨hu.os.trans hc.up.os,hu.tape.trans hc.up.tape,hu.output.trans hc.up.output,Nat.le_trans hc.up.size hu.size,λ k hk hn => ?_,hc.up.sub⟩,λ x hx2=>⟨?_,(hc.blk x hx2).2⟩,hc.lt⟩
 ·rw [hu.block k (Nat.lt_of_lt_of_le hk hc.up.size) (λ hg=>by
   rcases hG k hg with e | e
   ·exact hn e
   ·omega)]
  exact hc.up.block k hk hn
 ·have hk:=(hc.blk x hx2).1
  unfold Blk at hk ⊢
  rw [hu.block _ (some_lt hk) (λ hg => ?_)]
  ·exact hk
  ·rcases hG _ hg with e | e
   ·have:=(hc.blk x hx2).2;have:=hc.lt;omega
   ·exact e.2 x hx2 rfl
theorem fail_up {ab:Nat} {h:AHd} {w0 W:World} {e0:Int} {ls:Bx} {C:Prop} (hc:Ck ab h w0 e0 ls C W) (is:Bool) (q1 q2 q3 en:Int) (hen:en≠0) :
  Calls Try.prog 47 #[.pointer (some ⟨ab,0,none⟩),.bool is,.agg #[.int .i64 q1,.int .i64 q2,.int .i64 q3],.int .i64 en] W λ e w'=>e = .returned (.tuple #[])∧Ck ab h w0 e0 ls (C∧is=false) w'∧Upd (One ab) (One ab) W w':=by
 obtain ⟨e1,h1,h2⟩:=hc.next
 refine (fail_any h1 is q1 q2 q3 en hen).mono ?_
 rintro en w' ⟨rfl,hk⟩
 exact ⟨rfl,(h2 hk).iff (by simp),hk.up⟩
set_option maxRecDepth 100000 in
set_option maxHeartbeats 8000000 in
theorem latches_any {base ab:Nat} {w:World} {x:AX} {l:List Sg} {ps:List Pr} {il:List Int} {sts:List (Nat × List Bool)} {ro:Value} {p1 p2 p3 e:Int} (hA:AN base ab x ro l ps il sts p1 p2 p3 e w) :
  Calls Try.prog 29 #[.pointer (some ⟨ab,0,none⟩)] w (FailR ab (x.h l.length il.length ps.length sts.length ro) w e [] (latchesC l ps)):=by
 obtain ⟨sp,sc,lp,ln,lc,ip,ic,op,on,oc,pp,cp,qp,qn,qc,tp,tc,dp,dc,wp,wcc⟩:=x
 obtain ⟨np,hnp⟩:∃ n,ps.length=n:=⟨_,rfl⟩
 obtain ⟨N,hN⟩:∃ n,l.length=n:=⟨_,rfl⟩
 have HD:=Lib.hid (And.intro hA (And.intro hnp (And.intro (show np≤1000 by rw [←hnp];exact hA.dd.np) (And.intro hN (show N≤1000 by rw [←hN];exact hA.dd.sg.le)))))
 have hb:=hA.an
 obtain ⟨h,hh⟩:∃ h,AX.h ⟨sp,sc,lp,ln,lc,ip,ic,op,on,oc,pp,cp,qp,qn,qc,tp,tc,dp,dc,wp,wcc⟩ l.length il.length ps.length sts.length ro=h:=⟨_,rfl⟩
 have HH:Hid (h.sg = .slice sp N sc∧h.pr = .slice pp np cp∧h.wr = .slice wp np wcc):=Lib.hid (by rw [←hh,←hN,←hnp];exact ⟨rfl,rfl,rfl⟩)
 rw [hh] at hb ⊢
 unfold latchesC
 rw [hnp]
 obtain ⟨g,hg⟩:∃ g:Nat→Prop,(λ i=>latP l ps i)=g:=⟨_,rfl⟩
 rw [hg]
 have HG:=Lib.hid hg
 have HC:Hid (Ck ab h w e [] (Till g 0) w):=Lib.hid ((Ck.start hb).iff (Till.zero g).symm)
 clear hb hA hnp hh hg hN
 have a4:=HC.out.cell (i:=4) (v := .slice pp np cp) (λ _ _ _ _=>congrArg some HH.out.2.1)
 go_enter Try.func29,Try.ntmps29
 go_wp2_with fail
 go_loopw [15] (λ iv wr=>∃ i:Nat,iv = .int .i64 i∧i≤np∧Ck ab h w e [] (Till g i) wr) (λ iv _=>np-(intOf iv).toNat)
 case atStart=>exact ⟨0,rfl,Nat.zero_le _,HC.out⟩
 case round =>
  obtain ⟨i,rfl,hin,hCr⟩:=hrel
  clear a4
  by_cases hlt:i<np
  ·have hii:(i:Int)<(np:Int):=by omega
   have hi0:(0:Int)≤(i:Int):=by omega
   have hiw:IntKind.i64.wrap ((i:Int)+1)=((i+1:Nat):Int):=by rw [i64_of (by have:=HD.out.2.2.1;omega)];rfl
   obtain ⟨q,hq⟩:∃ q,ps[i]? = some q:=⟨_,List.getElem?_eq_getElem (by rw [HD.out.2.1];exact hlt)⟩
   have hDr:=HD.out.1.dd.low (hCr.low HD.out.1.hb)
   obtain ⟨b,o,pb,cb,bc,hpp,hrg,hra,hsf⟩:=hDr.at hq
   dsimp only at hpp
   subst hpp
   have hwf:=HD.out.1.dd.wf q (List.mem_of_getElem? hq)
   have hgd:ps.getD i default=q:=by rw [List.getD,hq];rfl
   have hgi:g i↔latP l ps i:=by rw [←HG.out]
   unfold latP at hgi
   rw [hgd] at hgi
   obtain ⟨kd,y1,y2,y3,body⟩:=q
   dsimp only at hrg hra hsf hwf hgi
   obtain ⟨bn,hbn⟩:∃ n,body.len=n:=⟨_,rfl⟩
   rw [hbn] at hrg
   have c0:=hrg 0 _ rfl
   have c1:=hrg 1 _ rfl
   have c2:=hrg 2 _ rfl
   have c3:=hrg 3 _ rfl
   have c4:=hrg 4 _ rfl
   rw [Nat.add_zero] at c0
   have hCl:=hCr.lay 49 [.int .i64 kd,.int .i64 y1,.int .i64 y2,.int .i64 y3,.slice pb bn cb]
   change Ck _ _ _ _ _ _ (wr.alloc (.cells #[.int .i64 kd,.int .i64 y1,.int .i64 y2,.int .i64 y3,.slice pb bn cb] 49)) at hCl
   have hb5:=Below.new wr (.cells #[.int .i64 kd,.int .i64 y1,.int .i64 y2,.int .i64 y3,.slice pb bn cb] 49)
   have hra5:=hra.turn (A':=λ k=>k<base) (w':=wr.alloc (.cells #[.int .i64 kd,.int .i64 y1,.int .i64 y2,.int .i64 y3,.slice pb bn cb] 49)) λ k hk hk2=>⟨hk,hb5.block k hk2⟩
   have hsf5:=hsf.turn EF.stay (A':=λ k=>k<base) (w':=wr.alloc (.cells #[.int .i64 kd,.int .i64 y1,.int .i64 y2,.int .i64 y3,.slice pb bn cb] 49)) λ k hk hk2=>⟨hk,hb5.block k hk2⟩
   have HL:=Lib.hid (And.intro hCl (And.intro hra5 (And.intro hsf5 (And.intro hwf (And.intro hgi (And.intro hbn (And.intro hlt (And.intro hq hgd))))))))
   clear hCr hDr hrg hra hsf hwf hgd hgi hbn hlt hin hq hCl hb5 hra5 hsf5
   go_upto_region 3 with fail
   obtain ⟨xp,hxp⟩:∃ b,wr.heap.size=b:=⟨_,rfl⟩
   rw [hxp] at HL ⊢
   generalize wr.alloc (.cells #[.int .i64 kd,.int .i64 y1,.int .i64 y2,.int .i64 y3,.slice pb bn cb] 49)=w5 at *
   clear hxp c0 c1 c2 c3 c4
   have x0:=(HL.out.1.at 0 rfl).cell (i:=0) rfl
   by_cases hk2:kd=2
   ·have hk2n:((kd:Int) != 2)=false:=by rw [hk2];rfl
    have HK2:=Lib.hid hk2
    clear hk2
    obtain ⟨e5,hst5,hbk5⟩:=HL.out.1.next
    have HBk:Hid (∀ {ls':Bx} {C1:Prop} {W1:World},Ck ab h w5 e5 ls' C1 W1→Ck ab h w e _ (Till g i∧C1) W1):=Lib.hid hbk5
    have HS5:=Lib.hid hst5
    clear hst5 hbk5
    have HXp:=Lib.hid (And.intro (HL.out.1.at 0 rfl) (HL.out.1.ne List.mem_cons_self))
    have HD5:Hid (DD base w5 _ l ps il sts∧UD (λ b=>b≠ab) w5 _ l ps):=Lib.hid ⟨HD.out.1.dd.low (HL.out.1.low HD.out.1.hb),HL.out.1.ud HD.out.1.ud⟩
    have a0:=HS5.out.cell (i:=0) (v := .slice sp N sc) (λ _ _ _ _=>congrArg some HH.out.1)
    obtain ⟨bw,ow,pw,mw,hwp,hwn,hcw,husw⟩:=HD5.out.2.atW HL.out.2.2.2.2.2.2.2.1
    dsimp only at hwp
    subst hwp
    rw [HD.out.2.2.2.1] at hcw husw
    obtain ⟨WR,hWR⟩:∃ u,writesP (sizes l) kAll body=u:=⟨_,rfl⟩
    have hwu:WU (sizes l) WR:=by rw [←hWR];exact writesP_wu _ _ _
    rw [hWR] at husw HL
    have hwl:WR.length=N:=by rw [hwu.1,sizes,List.length_map];exact HD.out.2.2.2.1
    have hmk:=λ w=>mk_sure N (by have:=HD.out.2.2.2.2;omega) w
    have hu6:=UsM.start (w:=w5) (base:=w5.heap.size) N (Nat.le_refl _)
    have hC6:=HS5.out.below (Below.new w5 (.cells ((List.range N).map λ _=>Value.slice none 0 0).toArray 73))
    have HU:=Lib.hid (And.intro husw (And.intro hwu (And.intro hwl (And.intro hcw hwn))))
    have H6:=Lib.hid (And.intro hu6 hC6)
    clear hu6 hC6 husw hwu hwl hcw hwn hWR
    go_upto_region 5 with fail
    obtain ⟨gs,hgs⟩:∃ b,w5.heap.size=b:=⟨_,rfl⟩
    rw [hgs] at H6 ⊢
    generalize w5.alloc (.cells ((List.range N).map λ _=>Value.slice none 0 0).toArray 73)=w6 at *
    clear hmk a0 x0
    have HGs:=Lib.hid hgs
    clear hgs
    have a9:=H6.out.2.cell (i:=9) (v := .slice (some ⟨bw,ow,none⟩) np wcc) (λ _ _ _ _=>congrArg some HH.out.2.2)
    have hcw6:=H6.out.2.cell0 HU.out.2.2.2.1 HU.out.2.2.2.2
    go_wp2_with fail
    go_loopw [38] (λ kv wr=>∃ (k:Nat) (V:Nat→Value),kv = .int .i64 k∧k≤N∧UsM gs gs wr (takeU (sure0 WR) k) V∧Ck ab h w5 e5 [] True wr) (λ kv _=>N-(intOf kv).toNat)
    case atStart=>exact ⟨0,_,rfl,Nat.zero_le _,by rw [takeU_zero,sure0_len,HU.out.2.2.1];exact H6.out.1,H6.out.2⟩
    case round =>
     obtain ⟨k,V,rfl,hkn,hUk,hCk⟩:=hrel
     clear a9 hcw6
     by_cases hlt:k<N
     ·have hkk:(k:Int)<(N:Int):=by omega
      have hk0:(0:Int)≤(k:Int):=by omega
      have hkw:IntKind.i64.wrap ((k:Int)+1)=((k+1:Nat):Int):=by rw [i64_of (by have:=HD.out.2.2.2.2;omega)];rfl
      obtain ⟨bg,og,pr,cr,hpw,hgn,hcr,hrow,hnil⟩:=HU.out.1.get (us_at HU.out.2.2.1 hlt)
      subst hpw
      replace hcr:=hCk.cell0 hcr hgn
      obtain ⟨row,hrow2⟩:∃ r,WR.getD k []=r:=⟨_,rfl⟩
      obtain ⟨rn,hrn⟩:∃ n,row.length=n:=⟨_,rfl⟩
      have hrl:=HU.out.2.1.le HD.out.1.dd.sg k
      rw [hrow2,hrn] at hcr hrl
      rw [hrow2] at hnil
      have hsr:(sure0 WR).getD k []=List.replicate rn false:=by rw [sure0_row,hrow2,hrn]
      have hsl:k<(takeU (sure0 WR) k).length:=by rw [takeU_len,sure0_len,HU.out.2.2.1];exact hlt
      have ht0:(takeU (sure0 WR) k).getD k [] = []:=by rw [List.getD,takeU_at _ _ (by rw [sure0_len,HU.out.2.2.1];exact hlt)];simp
      obtain ⟨z,hz⟩:∃ z,row.isEmpty=z:=⟨_,rfl⟩
      rw [hz] at hnil
      have HK:=Lib.hid (And.intro hUk (And.intro hCk (And.intro hsr (And.intro hsl (And.intro ht0 (And.intro hlt (And.intro hrl (And.intro hz hrn))))))))
      clear hUk hCk hsr hsl ht0 hlt hkn hrl hz hrow hrow2 hrn hgn
      have qN:=ne_nilB
      cases z
      case true =>
       go_wp2_with fail
       go_roundw
       case measure=>simp [intOf];have:=HK.out.2.2.2.2.2.1;omega
       case rel =>
        refine ⟨k+1,V,by go_num,HK.out.2.2.2.2.2.1,?_,HK.out.2.1⟩
        have h0:row = []:=List.isEmpty_iff.1 HK.out.2.2.2.2.2.2.2.1
        have h1:rn=0:=by rw [←HK.out.2.2.2.2.2.2.2.2,h0];rfl
        rw [takeU_succ,HK.out.2.2.1,h1,set_at_self _ _ HK.out.2.2.2.1 _ (by rw [HK.out.2.2.2.2.1];rfl)]
        exact HK.out.1
      case false =>
       have hmk:=λ w=>mk_bools rn (by have:=HK.out.2.2.2.2.2.2.1;omega) w
       have hrp:0<rn:=by have h1:=HK.out.2.2.2.2.2.2.2.2;have h2:=HK.out.2.2.2.2.2.2.2.1;cases row with | nil=>cases h2 | cons _ _=>rw [←h1];exact Nat.succ_pos _
       have hU1:=HK.out.1.below (Below.new wr (.cells (bools (List.replicate rn false)).toArray 4))
       have g1:=hU1.row HK.out.2.2.2.1
       obtain ⟨pv,cv,hpv⟩:=HK.out.1.form k
       rw [hpv] at g1
       have gf:=hU1.blk.frz k
       have hfr:=(HK.out.1.fresh HK.out.2.2.2.1 HK.out.2.2.2.2.1 hrp (by have:=HK.out.2.2.2.2.2.2.1;omega)).1
       have hfc:Ck ab h w5 e5 [] True ((wr.alloc (.cells (bools (List.replicate rn false)).toArray 4)).setCell ⟨gs,k,none⟩ (.slice (some ⟨wr.heap.size,0,none⟩) rn rn)):=(HK.out.2.1.below (Below.new _ _)).put (by rw [HGs.out];exact Nat.le_refl _) (λ y hy=>by cases hy)
       have HF:=Lib.hid (And.intro hfr hfc)
       clear hU1 hpv hfr hfc hrp
       go_wp2_with fail
       go_roundw
       case measure=>simp [intOf];have:=HK.out.2.2.2.2.2.1;omega
       case rel=>exact ⟨k+1,_,by go_num,HK.out.2.2.2.2.2.1,by rw [takeU_succ,HK.out.2.2.1];exact HF.out.1,HF.out.2⟩
     ·obtain rfl:N=k:=by omega
      have hkk:¬(N:Int)<(N:Int):=by omega
      have hfull:takeU (sure0 WR) N=sure0 WR:=by have:=takeU_full (sure0 WR);rw [sure0_len,HU.out.2.2.1] at this;exact this
      rw [hfull] at hUk
      have hlow:=hCk.low HD.out.1.hb
      have hd:=HD5.out.1.low hlow
      obtain ⟨r1,r2,r3,ee,hbe,hie⟩:=hCk.an
      have hlt5:=HS5.out.lt
      have hgs:=HGs.out
      have hna:¬FV gs V ab:=λ hf=>by have:=(hUk.flt _ hf).1;omega
      have hsu:WU (sizes l) (sure0 WR):=HU.out.2.1.same (sure0_len _) (λ k=>by rw [sure0_row,List.length_replicate])
      have hcall:=lat_any (base:=base) (ab:=ab) (h:=h) (l:=l) (sp:=sp) (sc:=sc) (kd:=kd) (y1:=y1) (y2:=y2) (y3:=y3) (bp:=pb) (bnn:=bn) (bcp:=cb) HD.out.1.hb (by rw [HD.out.2.2.2.1];exact HH.out.1) HL.out.2.2.2.1.1 HL.out.2.2.2.1.2 gs gs wr (sure0 WR) V r1 r2 r3 ee pb cb bc hbe hUk (by have:=HD.out.1.hb;omega) hna hsu hd.sg (HL.out.2.1.turn λ k hk _=>⟨hk,hlow.block k hk⟩) (HL.out.2.2.1.turn EF.stay λ k hk _=>⟨hk,hlow.block k hk⟩)
      rw [HL.out.2.2.2.2.2.1,HD.out.2.2.2.1] at hcall
      have HCa:=Lib.hid (And.intro hcall (And.intro hCk (And.intro hbe (And.intro hUk hlt5))))
      have xp0:=(hCk.blk0 HXp.out.1 HXp.out.2).cell (i:=0) rfl
      have xp1:=(hCk.blk0 HXp.out.1 HXp.out.2).cell (i:=1) rfl
      have xp2:=(hCk.blk0 HXp.out.1 HXp.out.2).cell (i:=2) rfl
      have xp3:=(hCk.blk0 HXp.out.1 HXp.out.2).cell (i:=3) rfl
      have xp4:=(hCk.blk0 HXp.out.1 HXp.out.2).cell (i:=4) rfl
      clear hUk hCk hlow hd hbe hie hlt5 hgs hna hsu hcall hlt hkn hfull
      go_wp2_with fail
      refine HCa.out.1.mono ?_;rintro en w7 ⟨rfl,hU7,⟨q1,q2,q3,e7,han7,hi7⟩,hup7⟩
      have hge:∀ k,FV gs V k→w5.heap.size≤k:=λ k hk=>by have:=(HCa.out.2.2.2.1.flt k hk).1;have:=HGs.out;omega
      have hC7:=HCa.out.2.1.nest (C2:=latC l body (sure0 WR)) (λ s1 s2 s3 e8 hb8=>⟨q1,q2,q3,e7,han7,by
       have:=blk_inj hb8 HCa.out.2.2.1
       unfold AHd.cells at this
       simp only [List.cons.injEq,Value.int.injEq,true_and,and_true] at this
       rw [hi7,this.2.2.2]⟩) hup7 (λ k hk=>by
       rcases hk with e9 | e9
       ·exact .inl e9
       ·exact .inr ⟨hge k e9,λ y hy=>by cases hy⟩)
      obtain ⟨LS,hLS⟩:∃ s,latS body (sure0 WR)=s:=⟨_,rfl⟩
      have hLl:LS.length=N:=by rw [←hLS,latS_len,sure0_len];exact HU.out.2.2.1
      have hLr:∀ k,(LS.getD k []).length≤1000000:=λ k=>by rw [←hLS,latS_row,sure0_row,List.length_replicate];have:=HU.out.2.1.le HD.out.1.dd.sg k;omega
      rw [hLS] at hU7 HL
      have hus7:US (λ k=>w5.heap.size≤k) w7 (usV gs N) LS:=by
       have:=hU7.us
       rw [hLl] at this
       exact this.turn λ k hk _=>⟨hge k hk,rfl⟩
      have H7:=Lib.hid (And.intro hC7 (And.intro hus7 (And.intro hLl hLr)))
      clear hU7 han7 hi7 hup7 hge hC7 hLS hLl hLr hus7 xp0 xp1 xp2 xp3 xp4
      obtain ⟨gk,hgk⟩:∃ gk:Nat→Prop,(λ k=>(LS.getD k []).contains false=false)=gk:=⟨_,rfl⟩
      have HGk:=Lib.hid hgk
      clear hgk
      go_wp2_with fail
      go_loopw [59] (λ kv wr=>∃ k:Nat,kv = .int .i64 k∧k≤N∧Ck ab h w5 e5 [] ((True∧latC l body (sure0 WR))∧Till gk k) wr∧US (λ k=>w5.heap.size≤k) wr (usV gs N) LS) (λ kv _=>N-(intOf kv).toNat)
      case atStart=>exact ⟨0,rfl,Nat.zero_le _,H7.out.1.iff (by rw [Till.zero];simp),H7.out.2.1⟩
      case round =>
       obtain ⟨k,rfl,hkn,hCk,husk⟩:=hrel
       by_cases hlt:k<N
       ·have hkk2:(k:Int)<(N:Int):=by omega
        have hk0:(0:Int)≤(k:Int):=by omega
        have hkw:IntKind.i64.wrap ((k:Int)+1)=((k+1:Nat):Int):=by rw [i64_of (by have:=HD.out.2.2.2.2;omega)];rfl
        obtain ⟨bq,oq,pr,cr,hpe,_,hcr,hrow,_⟩:=husk.get (us_at H7.out.2.2.1 hlt)
        cases hpe
        rw [Nat.zero_add] at hcr
        have hB:=hasB_any (w:=wr.drew) hrow.ro (H7.out.2.2.2 k) false
        obtain ⟨cf,hcf⟩:∃ c,(LS.getD k []).contains false=c:=⟨_,rfl⟩
        rw [hcf] at hB
        obtain ⟨rn,hrn⟩:∃ n,(LS.getD k []).length=n:=⟨_,rfl⟩
        rw [hrn] at hB hcr
        have xp1:=(hCk.blk0 HXp.out.1 HXp.out.2).cell (i:=1) rfl
        have xp2:=(hCk.blk0 HXp.out.1 HXp.out.2).cell (i:=2) rfl
        have xp3:=(hCk.blk0 HXp.out.1 HXp.out.2).cell (i:=3) rfl
        have hgk:gk k↔cf=false:=by rw [←HGk.out,←hcf]
        have HK:=Lib.hid (And.intro hCk.drew (And.intro (husk.turn (A':=λ k=>w5.heap.size≤k) (w':=wr.drew) λ k hk _=>⟨hk,rfl⟩) (And.intro hB (And.intro hgk hlt))))
        clear hCk husk hB hgk hlt hkn hrow hrn hcf
        go_upto_region 14 with fail
        refine wp_region_still_tail 5 (by kernel_rfl) (by kernel_rfl) ?_
        simp only [List.take_succ_cons,List.take_zero,List.drop_succ_cons,List.drop_zero]
        change wpStill _ _ wr.drew (λ a'=>wpList _ _ _ _ a' wr.drew) _ _
        replace xp1:wr.drew.cell? _=_:=xp1
        replace xp2:wr.drew.cell? _=_:=xp2
        replace xp3:wr.drew.cell? _=_:=xp3
        replace hcr:wr.drew.cell? _=_:=hcr
        generalize wr.drew=wz at *
        refine WS.out ?_
        iterate 2 (refine ws_step (λ K hK => ?_);go_simp;refine hK _ ?_;clear hK K)
        refine ws_step (λ K hK => ?_)
        go_simp
        refine ⟨_,HK.out.2.2.1,hK _ ?_⟩
        clear hK K
        iterate 2 (refine ws_step (λ K hK => ?_);go_simp;refine hK _ ?_;clear hK K)
        refine ws_nil ?_
        clear xp1 xp2 xp3 hcr
        go_wp2_with fail
        have hlt5:=HS5.out.lt
        refine (Calls.mono (fail_up HK.out.1 cf y1 y2 y3 16 (by decide)) ?_);rintro en w9 ⟨rfl,h9,hu9⟩
        have hus9:US (λ k=>w5.heap.size≤k) w9 (usV gs N) LS:=HK.out.2.1.turn λ k hk hlt=>⟨hk,hu9.block k hlt (λ e9=>by have e2:k=ab:=e9;omega)⟩
        have H9:=Lib.hid (And.intro (h9.iff (C':=(True∧latC l body (sure0 WR))∧Till gk (k+1)) (by rw [Till.succ,HK.out.2.2.2.1];simp [and_assoc])) hus9)
        clear h9 hu9 hus9 hlt5
        go_wp2_with fail
        go_roundw
        case measure=>simp [intOf];have:=HK.out.2.2.2.2;omega
        case rel=>exact ⟨k+1,by go_num,HK.out.2.2.2.2,H9.out.1,H9.out.2⟩
       ·obtain rfl:N=k:=by omega
        have hkk2:¬(N:Int)<(N:Int):=by omega
        have H9:=Lib.hid (((HBk.out hCk).drop 1).iff (C':=Till g (i+1)) (by
         rw [Till.succ,HL.out.2.2.2.2.1,HD.out.2.2.2.1,HGk.out]
         simp [HK2.out]))
        clear hCk husk hlt hkn
        go_wp2_with fail
        go_roundw
        case measure=>simp [intOf];have:=HL.out.2.2.2.2.2.2.1;omega
        case rel=>exact ⟨i+1,by go_num,HL.out.2.2.2.2.2.2.1,H9.out⟩
   ·have hk2n:((kd:Int) != 2)=true:=by simp;omega
    have HK2:=Lib.hid hk2
    clear hk2
    have H9:=Lib.hid ((HL.out.1.drop 1).iff (C':=Till g (i+1)) (by rw [Till.succ,HL.out.2.2.2.2.1];simp [HK2.out]))
    go_wp2_with fail
    go_roundw
    case measure=>simp [intOf];have:=HL.out.2.2.2.2.2.2.1;omega
    case rel=>exact ⟨i+1,by go_num,HL.out.2.2.2.2.2.2.1,H9.out⟩
  ·obtain rfl:np=i:=by omega
   have hii:¬(np:Int)<(np:Int):=by omega
   have HCr:=Lib.hid hCr
   clear hlt hin hCr
   go_wp2_with fail
   go_end0
   exact ⟨rfl,HCr.out⟩
def UL (A:Nat→Prop) (W:World) (cs:List Value) (us:List Us):Prop:=cs.length=us.length∧∀ (i:Nat) (u:Us),us[i]? = some u→∃ v,cs[i]? = some v∧US A W v u
theorem UL.turn {A A':Nat→Prop} {w w':World} {cs:List Value} {us:List Us} (h:UL A w cs us) (hA:∀ b,A b→b<w.heap.size→A' b∧w'.heap[b]? = w.heap[b]?):UL A' w' cs us :=
 ⟨h.1,λ i u hi=>by
  obtain ⟨v,h1,h2⟩:=h.2 i u hi
  exact ⟨v,h1,h2.turn hA⟩⟩
theorem UL.app {A:Nat→Prop} {w:World} {cs:List Value} {us:List Us} {v:Value} {u:Us} (h:UL A w cs us) (hu:US A w v u):UL A w (cs ++ [v]) (us ++ [u]):=by
 refine ⟨by rw [List.length_append,List.length_append,h.1];rfl,λ i u' hi => ?_⟩
 by_cases hlt:i<us.length
 ·rw [List.getElem?_append_left hlt] at hi
  obtain ⟨v',h1,h2⟩:=h.2 i u' hi
  exact ⟨v',by rw [List.getElem?_append_left (by rw [h.1];exact hlt)];exact h1,h2⟩
 ·rw [List.getElem?_append_right (by omega)] at hi
  have h0:i-us.length=0:=by have:=(List.getElem?_eq_some_iff.1 hi).1;simp at this;omega
  rw [h0] at hi
  have e:u=u':=by simpa using hi
  subst e
  exact ⟨v,by rw [List.getElem?_append_right (by rw [h.1];omega),h.1,h0];rfl,hu⟩
def AB (w:World) (ab:Nat) (R:Bool→Value × List Value) (ls:Bx) (b:Nat):Prop:=w.heap.size≤b∧b≠ab∧(∀ k,(R k).1.ownBlock≠some b)∧∀ x∈ls,x.1≠b
structure AW (w:World) (ab:Nat) (ls:Bx) (ac:List Value) (R:Bool→Value × List Value) (F:Bool→List Us) (W:World):Prop where
 mem:Mem (λ _:Bool=>104) w.heap.size ab W R
 an:Blk W ab 103 ac
 bel:Below w.heap.size w W
 blk:∀ x∈ls,Blk W x.1 x.2.1 x.2.2∧w.heap.size≤x.1∧x.1≠ab∧∀ k,(R k).1.ownBlock≠some x.1
 g:∀ k,UL (AB w ab R ls) W (R k).2 (F k)
section
variable {w W W':World} {ab:Nat} {ls:Bx} {ac:List Value} {R:Bool→Value × List Value} {F:Bool→List Us}
theorem AW.below (h:AW w ab ls ac R F W) (hb:Below W.heap.size W W'):AW w ab ls ac R F W' :=
 ⟨h.mem.below hb,h.an.next hb,Below.trans h.bel (hb.mono h.bel.size),λ x hx=>⟨(h.blk x hx).1.next hb,(h.blk x hx).2⟩,λ k=>(h.g k).turn λ b hA hlt=>⟨hA,hb.block b hlt⟩⟩
theorem AW.lay (h:AW w ab ls ac R F W) (t:Nat) (c:List Value):AW w ab ((W.heap.size,t,c)::ls) ac R F (W.alloc (.cells c.toArray t)):=by
 have h':=h.below (Below.new W (.cells c.toArray t))
 refine ⟨h'.mem,h'.an,h'.bel,λ x hx => ?_,λ k=>(h.g k).turn λ b hA hlt=>⟨⟨hA.1,hA.2.1,hA.2.2.1,λ x hx => ?_⟩,(Below.new W (.cells c.toArray t)).block b hlt⟩⟩
 ·rcases List.mem_cons.1 hx with rfl | hx
  ·refine ⟨Blk.new _ _,h.bel.size,λ e => ?_,λ k e => ?_⟩
   ·have:=h.an.lt;have e':W.heap.size=ab:=e;omega
   ·have:=(h.mem.lts k _ e).2;exact absurd this (Nat.lt_irrefl _)
  ·exact h'.blk x hx
 ·rcases List.mem_cons.1 hx with rfl | hx
  ·show W.heap.size≠b;omega
  ·exact hA.2.2.2 x hx
theorem AW.drop (h:AW w ab ls ac R F W) (j:Nat):AW w ab (ls.drop j) ac R F W :=
 ⟨h.mem,h.an,h.bel,λ x hx=>h.blk x (List.mem_of_mem_drop hx),λ k=>(h.g k).turn λ b hA _=>⟨⟨hA.1,hA.2.1,hA.2.2.1,λ x hx=>hA.2.2.2 x (List.mem_of_mem_drop hx)⟩,rfl⟩⟩
theorem AW.at (h:AW w ab ls ac R F W) (j:Nat) {b t:Nat} {l:List Value} (hj:ls[j]? = some (b,t,l)):Blk W b t l:=(h.blk _ (List.mem_of_getElem? hj)).1
theorem AW.store (h:AW w ab ls ac R F W) (i:Nat) (v:Value):AW w ab ls (ac.set i v) R F (W.setCell ⟨ab,i,none⟩ v):=by
 have hold:∀ b,b≠ab→(W.setCell ⟨ab,i,none⟩ v).heap[b]? = W.heap[b]? := λ b hb=>Below.heap_setCell _ _ _ _ hb
 refine ⟨h.mem.keep (by simp) λ k b hb=>hold b (λ e=>h.mem.nb k (by rw [←e];exact hb)),h.an.set i v,h.bel.setCell h.mem.hb _,λ x hx=>⟨(h.blk x hx).1.other _ (h.blk x hx).2.2.1,(h.blk x hx).2⟩,λ k=>(h.g k).turn λ b hA _=>⟨hA,hold b hA.2.1⟩⟩
theorem AW.form (h:AW w ab ls ac R F W) (k:Bool):∃ p c,(R k).1 = .slice p (F k).length c∧(R k).2.length=(F k).length:=by
 obtain ⟨p,c,e⟩:=ownsRow_form (h.mem.own k)
 exact ⟨p,c,by rw [e,(h.g k).1],(h.g k).1⟩
theorem AW.add (h:AW w ab ls ac R F W) (k:Bool) {W2 W3:World} (hb:Below W.heap.size W W2) {v v':Value} {u:Us} {m:Nat} (hu:US (λ b=>W.heap.size≤b) W2 v u) (ha:AppR w.heap.size 104 1 W2 (R k).1 m ((R k).2 ++ [v]) v' W3) :
  AW w ab ls ac (upd R k (v',(R k).2 ++ [v])) (λ j=>if j=k then F k ++ [u] else F j) W3:=by
 have h2:=h.below hb
 have hold:∀ b,b<W2.heap.size→(R k).1.ownBlock≠some b→W3.heap[b]? = W2.heap[b]? := λ b hlt hn=>ha.grown.block b hlt (Ne.symm hn)
 have hat:∀ b,v'.ownBlock=some b→(R k).1.ownBlock=some b∨W2.heap.size≤b:=λ b hb2=>by
  rcases ha.at_ with e2 | e2
  ·exact .inl (e2 ▸ hb2)
  ·have:=Option.some.inj (e2.symm.trans hb2);exact .inr (by omega)
 have hm:m=((R k).2 ++ [v]).length:=by have:=ha.own.1;omega
 have hb0:Below w.heap.size W2 W3:=ha.below (Below.refl _ _) h2.bel.size λ b hb2=>(h2.mem.lts k b hb2).1
 have hown:∀ j,((upd R k (v',(R k).2 ++ [v])) j).1.ownBlock=if j=k then v'.ownBlock else (R j).1.ownBlock:=λ j=>by
  unfold upd;split <;> rfl
 have hnew:∀ b,b<W2.heap.size→(∀ j,(R j).1.ownBlock≠some b)→∀ j,((upd R k (v',(R k).2 ++ [v])) j).1.ownBlock≠some b:=λ b hlt hn j e=>by
  rw [hown] at e
  split at e
  ·rcases hat b e with e2 | e2
   ·exact hn k e2
   ·omega
  ·exact hn j e
 refine ⟨h2.mem.put k ha.own ha.grown.size hat hold,?_,Below.trans h2.bel hb0,λ x hx => ?_,λ j => ?_⟩
 ·have hk:=h2.an
  unfold Blk at hk ⊢
  rw [hold ab (some_lt hk) (h2.mem.nb k)];exact hk
 ·obtain ⟨h3,h4,h5,h6⟩:=h2.blk x hx
  refine ⟨?_,h4,h5,hnew _ h3.lt h6⟩
  unfold Blk at h3 ⊢
  rw [hold _ (some_lt h3) (h6 k)];exact h3
 ·have hgo:∀ j,UL (AB w ab (upd R k (v',(R k).2 ++ [v])) ls) W3 (R j).2 (F j):=λ j=>(h2.g j).turn λ b hA hlt=>⟨⟨hA.1,hA.2.1,hnew b hlt hA.2.2.1,hA.2.2.2⟩,hold b hlt (hA.2.2.1 k)⟩
  by_cases e:j=k
  ·subst e
   rw [upd_same]
   (try dsimp only)
   rw [if_pos rfl]
   refine (hgo j).app (hu.turn λ b hA hlt=>⟨⟨Nat.le_trans h.bel.size hA,λ e=>by have:=h.an.lt;omega,hnew b hlt (λ j2 e=>by have:=(h.mem.lts j2 b e).2;omega),λ x hx e=>by have:=(h.blk x hx).1.lt;omega⟩,hold b hlt (λ e=>by have:=(h.mem.lts j b e).2;omega)⟩)
  ·rw [upd_other R _ e]
   (try dsimp only)
   rw [if_neg e]
   exact hgo j
theorem AW.uu (h:AW w ab ls ac R F W) (k:Bool):UU (λ b=>b≠ab) W (R k).1 (F k):=by
 refine ⟨(R k).2,?_,λ i u hi => ?_⟩
 ·have ho:=h.mem.own k
  have hl:=(h.g k).1
  rw [←hl]
  refine ⟨by simp,?_⟩
  rcases ho.2 with ⟨e1,e2⟩ | ⟨g,cap,cur,hv,hb,hg,h1,h2,h3,h4⟩
  ·rw [e1,e2]
   refine ⟨_,_,rfl,Nat.le_refl _,λ j u hj => ?_⟩
   rw [List.eq_nil_of_length_eq_zero e2] at hj;simp at hj
  ·refine ⟨_,_,hv,h1,λ j u hj=>⟨g,0,rfl,λ e=>h.mem.nb k (by rw [hv,←e];rfl),?_⟩⟩
   have:=ho.cells (g:=g) (by rw [hv];rfl) j u hj
   have hadd:(⟨g,0,none⟩:Addr).add j=⟨g,0+j,none⟩:=by unfold Addr.add;split <;> simp_all
   rwa [hadd] at this
 ·obtain ⟨v,h1,h2⟩:=(h.g k).2 i u hi
  exact ⟨v,h1,h2.turn λ b hA _=>⟨hA.2.1,rfl⟩⟩
end
end Go.Proofs.Ytlklleaocbnbcaa
