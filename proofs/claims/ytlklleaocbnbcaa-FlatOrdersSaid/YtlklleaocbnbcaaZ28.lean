import Derived.Test.YtlklleaocbnbcaaZ27
namespace Go.Proofs.Ytlklleaocbnbcaa
set_option linter.unusedVariables false
open Go.RowKit Go.Sort
def orT (a b:List Bool) (k:Nat):List Bool:=(List.range a.length).map λ j=>a.getD j false || (decide (j<k) && b.getD j false)
theorem orT_len (a b:List Bool) (k:Nat):(orT a b k).length=a.length:=by simp [orT]
theorem orT_at (a b:List Bool) (k:Nat) {j:Nat} (hj:j<a.length):(orT a b k)[j]? = some (a.getD j false || (decide (j<k) && b.getD j false)):=by
 unfold orT;rw [List.getElem?_map,List.getElem?_range hj];rfl
theorem orT_zero (a b:List Bool):orT a b 0=a:=by
 apply List.ext_getElem?
 intro j
 by_cases hj:j<a.length
 ·rw [orT_at a b 0 hj,List.getD,List.getElem?_eq_getElem hj];simp
 ·rw [List.getElem?_eq_none (by rw [orT_len];omega),List.getElem?_eq_none (by omega)]
theorem orT_succ (a b:List Bool) (k:Nat):orT a b (k+1)=(orT a b k).set k ((orT a b k).getD k false || b.getD k false):=by
 apply List.ext_getElem?
 intro j
 rw [List.getElem?_set]
 by_cases hj:j<a.length
 ·rw [orT_at a b _ hj]
  by_cases e:k=j
  ·subst e
   have e2:(orT a b k).getD k false=(a.getD k false || (decide (k<k) && b.getD k false)):=by rw [List.getD,orT_at a b k hj];rfl
   rw [if_pos rfl,if_pos (by rw [orT_len];exact hj),e2]
   simp
  ·rw [if_neg e,orT_at a b _ hj,show decide (j<k+1)=decide (j<k) by rw [decide_eq_decide];omega]
 ·rw [List.getElem?_eq_none (by rw [orT_len];omega)]
  split
  ·rw [if_neg (by rw [orT_len];omega)]
  ·rw [List.getElem?_eq_none (by rw [orT_len];omega)]
def wholeP (l:List Sg) (ps:List Pr) (s:Nat):Nat→Bool
 | 0=>false
 | n+1=>wholeP l ps s n || (!(wrB l ps n s).isEmpty && !decide ((ps.getD n default).kind=1))
def allP (l:List Sg) (ps:List Pr) (s wd:Nat):Nat→List Bool
 | 0=>List.replicate wd false
 | n+1=>orT (allP l ps s wd n) (wrB l ps n s) (wrB l ps n s).length
theorem allP_len (l:List Sg) (ps:List Pr) (s wd:Nat):∀ n,(allP l ps s wd n).length=wd
 | 0=>by simp [allP]
 | n+1=>by rw [allP,orT_len];exact allP_len l ps s wd n
def undS (l:List Sg) (ps:List Pr) (rl:List Int) (s:Nat):Prop :=
 (rl.getD s 0 == 0)=false∧((rl.getD s 0 == 2)=true→(!wholeP l ps s ps.length && (allP l ps s (l.getD s default).w ps.length).contains false)=false)
def undC (l:List Sg) (ps:List Pr) (rl:List Int):Prop:=Till (λ s=>undS l ps rl s) l.length
structure CkA (ab:Nat) (h:AHd) (w0:World) (e0:Int) (ls:Bx) (C:Prop) (gb:Nat) (al:List Bool) (W:World):Prop where
 ck:Ck ab h w0 e0 ls C W
 row:Blk W gb 4 (bools al)
 ge:w0.heap.size≤gb
 ne:∀ x∈ls,x.1≠gb
section
variable {ab gb:Nat} {h:AHd} {w0 W W':World} {e0:Int} {ls:Bx} {C:Prop} {al:List Bool}
theorem CkA.lay (hc:CkA ab h w0 e0 ls C gb al W) (t:Nat) (c:List Value):CkA ab h w0 e0 ((W.heap.size,t,c)::ls) C gb al (W.alloc (.cells c.toArray t)) :=
 ⟨hc.ck.lay t c,hc.row.next (Below.new _ _),hc.ge,λ x hx=>by
  rcases List.mem_cons.1 hx with rfl | hx
  ·have:=hc.row.lt;exact λ e=>by have e':W.heap.size=gb:=e;omega
  ·exact hc.ne x hx⟩
theorem CkA.drop (hc:CkA ab h w0 e0 ls C gb al W) (j:Nat):CkA ab h w0 e0 (ls.drop j) C gb al W:=⟨hc.ck.drop j,hc.row,hc.ge,λ x hx=>hc.ne x (List.mem_of_mem_drop hx)⟩
theorem Ck.put {b i:Nat} {v:Value} (hc:Ck ab h w0 e0 ls C W) (hb:w0.heap.size≤b) (hn:∀ x∈ls,x.1≠b):Ck ab h w0 e0 ls C (W.setCell ⟨b,i,none⟩ v):=by
 obtain ⟨p1,p2,p3,e,h1,h2⟩:=hc.an
 have hab:=hc.lt
 refine ⟨⟨p1,p2,p3,e,h1.other _ (by show ab≠b;omega),h2⟩,⟨hc.up.os,hc.up.tape,hc.up.output,by simpa using hc.up.size,λ k hk hn2 => ?_,hc.up.sub⟩,λ x hx=>⟨(hc.blk x hx).1.other _ (hn x hx),(hc.blk x hx).2⟩,hc.lt⟩
 rw [Below.heap_setCell _ _ _ _ (show k≠b by omega)]
 exact hc.up.block k hk hn2
theorem CkA.set (hc:CkA ab h w0 e0 ls C gb al W) (i:Nat) (x:Bool):CkA ab h w0 e0 ls C gb (al.set i x) (W.setCell ⟨gb,i,none⟩ (.bool x)) :=
 ⟨hc.ck.put hc.ge hc.ne,by rw [←bools_set];exact hc.row.set i _,hc.ge,hc.ne⟩
end
theorem wrB_le {base:Nat} {w:World} {p:Option Addr} {c:Nat} {l:List Sg} (h:SgsM base w p c l) (ps:List Pr) (i s:Nat) {y:Sg} (hy:l[s]? = some y):(wrB l ps i s).length≤y.size:=by
 unfold wrB
 rcases (writesP_wu (sizes l) kAll (ps.getD i default).body).2 s with e | e
 ·rw [e];exact Nat.zero_le _
 ·rw [e,sizes,List.getD,List.getElem?_map,hy];exact Nat.le_refl _
set_option maxRecDepth 100000 in
set_option maxHeartbeats 8000000 in
theorem undriven_any {base ab:Nat} {w:World} {x:AX} {l:List Sg} {ps:List Pr} {il:List Int} {sts:List (Nat × List Bool)} {rp:Option Addr} {rc:Nat} {rl:List Int} {p1 p2 p3 e:Int} (hb:Blk w ab 103 ((x.h l.length il.length ps.length sts.length (.slice rp l.length rc)).cells p1 p2 p3 e)) (hD:DD base w x l ps il sts) (hU:UD (λ b=>b≠ab) w x l ps) (hbase:base≤ab) (hR:ROA (λ b=>b≠ab) w (.slice rp l.length rc) 1 l.length (ints rl)) (hw1:∀ y∈l,y.size≤y.w∧y.w≤1000) :
  Calls Try.prog 28 #[.pointer (some ⟨ab,0,none⟩)] w (FailR ab (x.h l.length il.length ps.length sts.length (.slice rp l.length rc)) w e [] (undC l ps rl)):=by
 obtain ⟨sp,sc,lp,ln,lc,ip,ic,op,on,oc,pp,cp,qp,qn,qc,tp,tc,dp,dc,wp,wcc⟩:=x
 obtain ⟨np,hnp⟩:∃ n,ps.length=n:=⟨_,rfl⟩
 obtain ⟨N,hN⟩:∃ n,l.length=n:=⟨_,rfl⟩
 obtain ⟨ni,hni⟩:∃ n,il.length=n:=⟨_,rfl⟩
 obtain ⟨nt,hnt⟩:∃ n,sts.length=n:=⟨_,rfl⟩
 rw [hN] at hR
 have hrl:rl.length=N:=by have:=hR.1;simpa [ints] using this
 have HD:=Lib.hid (And.intro hD (And.intro hnp (And.intro (show np≤1000 by rw [←hnp];exact hD.np) (And.intro hbase (And.intro hU (And.intro hN (And.intro (show N≤1000 by rw [←hN];exact hD.sg.le) (And.intro hR (And.intro hrl hw1)))))))))
 rw [hN,hni,hnp,hnt] at hb ⊢
 obtain ⟨h,hh⟩:∃ h,AX.h ⟨sp,sc,lp,ln,lc,ip,ic,op,on,oc,pp,cp,qp,qn,qc,tp,tc,dp,dc,wp,wcc⟩ N ni np nt (.slice rp N rc)=h:=⟨_,rfl⟩
 have HH:Hid (h.sg = .slice sp N sc∧h.pl = .slice lp ln lc∧h.inp = .slice ip ni ic∧h.out = .slice op on oc∧h.pr = .slice pp np cp∧h.ass = .slice qp qn qc∧h.st = .slice tp nt tc∧h.ro = .slice rp N rc∧h.rd = .slice dp np dc∧h.wr = .slice wp np wcc):=Lib.hid (by rw [←hh];exact ⟨rfl,rfl,rfl,rfl,rfl,rfl,rfl,rfl,rfl,rfl⟩)
 rw [hh] at hb ⊢
 unfold undC
 rw [hN]
 obtain ⟨g,hg⟩:∃ g:Nat→Prop,(λ s=>undS l ps rl s)=g:=⟨_,rfl⟩
 rw [hg]
 have HG:=Lib.hid hg
 have HC:Hid (Ck ab h w e [] (Till g 0) w):=Lib.hid ((Ck.start hb).iff (Till.zero g).symm)
 clear hb hD hU hnp hbase hh hg hN hni hnt hR hrl hw1
 have a7:=HC.out.cell (i:=7) (v := .slice rp N rc) (λ _ _ _ _=>congrArg some HH.out.2.2.2.2.2.2.2.1)
 go_enter Try.func28,Try.ntmps28
 go_wp2_with fail
 go_loopw [16] (λ sv wr=>∃ s:Nat,sv = .int .i64 s∧s≤N∧Ck ab h w e [] (Till g s) wr) (λ sv _=>N-(intOf sv).toNat)
 case atStart=>exact ⟨0,rfl,Nat.zero_le _,HC.out⟩
 case round =>
  obtain ⟨s,rfl,hsn,hCs⟩:=hrel
  clear a7
  by_cases hlt:s<N
  ·have hss:(s:Int)<(N:Int):=by omega
   have hs0:(0:Int)≤(s:Int):=by omega
   have hsw:IntKind.i64.wrap ((s:Int)+1)=((s+1:Nat):Int):=by rw [i64_of (by have:=HD.out.2.2.2.2.2.2.1;omega)];rfl
   have hR2:=hCs.roa (λ _ h=>h) HD.out.2.2.2.2.2.2.2.1
   obtain ⟨br,or,rfl⟩:=hR2.sl (intsD_at rl (s:=s) (by rw [HD.out.2.2.2.2.2.2.2.2.1];exact hlt))
   have hcr:=hR2.ro.cell (intsD_at rl (s:=s) (by rw [HD.out.2.2.2.2.2.2.2.2.1];exact hlt))
   obtain ⟨rv,hrv⟩:∃ v,rl.getD s 0=v:=⟨_,rfl⟩
   rw [hrv] at hcr
   obtain ⟨b0,hb0⟩:∃ c,(rv == 0)=c:=⟨_,rfl⟩
   obtain ⟨b2,hb2⟩:∃ c,(rv == 2)=c:=⟨_,rfl⟩
   obtain ⟨y,hy⟩:∃ y,l[s]? = some y:=⟨_,List.getElem?_eq_getElem (by rw [HD.out.2.2.2.2.2.1];exact hlt)⟩
   have hyd:l.getD s default=y:=by rw [List.getD,hy];rfl
   have hgs:g s↔b0=false∧(b2=true→(!wholeP l ps s np && (allP l ps s y.w np).contains false)=false):=by rw [←HG.out];show undS l ps rl s↔_;unfold undS;rw [hrv,hb0,hb2,hyd,HD.out.2.1]
   have hyw:=HD.out.2.2.2.2.2.2.2.2.2 y (List.mem_of_getElem? hy)
   obtain ⟨plc,hpl⟩:=(HD.out.1.low (hCs.low HD.out.2.2.2.1)).pl
   dsimp only at hpl
   have a1:=hCs.cell (i:=1) (v := .slice lp ln lc) (λ _ _ _ _=>congrArg some HH.out.2.1)
   have HP:=Lib.hid (place_any a1 hpl.ro s)
   have hb2b:(rv != 2) = !b2:=by rw [←hb2];rfl
   have HS:=Lib.hid (And.intro hCs (And.intro hgs (And.intro hlt (And.intro hy hyw))))
   clear hCs hgs hlt hsn hrv hy hyd hyw hpl hR2 a1
   go_wp2_with fail
   refine HP.out.mono ?_;rintro en w6 ⟨q1,q2,q3,rfl,hb6⟩
   go_wp2_with fail
   refine (fail_any (HS.out.1.below hb6) b0 q1 q2 q3 14 (by decide)).mono ?_;rintro en w7 ⟨rfl,h7⟩
   have H7:=Lib.hid h7
   clear h7 hb6 hcr
   cases b2
   case false =>
    go_wp2_with fail
    go_roundw
    case measure=>simp [intOf];have:=HS.out.2.2.1;omega
    case rel=>exact ⟨s+1,by go_num,HS.out.2.2.1,H7.out.iff (by rw [Till.succ,HS.out.2.1];simp)⟩
   case true =>
    obtain ⟨C1,hC1⟩:∃ C1:Prop,(Till g s∧b0=false)=C1:=⟨_,rfl⟩
    rw [hC1] at H7
    have HC1:=Lib.hid hC1
    clear hC1
    obtain ⟨sb,so,hse,_,c1,_,_⟩:=(HD.out.1.low (H7.out.low HD.out.2.2.2.1)).sig HS.out.2.2.2.1
    dsimp only at hse
    subst hse
    obtain ⟨wd,hwd⟩:∃ n,y.w=n:=⟨_,rfl⟩
    rw [hwd] at c1 HS
    have HWd:=Lib.hid hwd
    clear hwd
    have a0:=H7.out.cell (i:=0) (v := .slice (some ⟨sb,so,none⟩) N sc) (λ _ _ _ _=>congrArg some HH.out.1)
    have hmk:=λ w=>mk_bools wd (by have:=HS.out.2.2.2.2.2;omega) w
    have hA8:CkA ab h w e [] C1 w7.heap.size (allP l ps s wd 0) (w7.alloc (.cells (bools (List.replicate wd false)).toArray 4)):=⟨H7.out.below (Below.new _ _),Blk.new _ _,H7.out.size,λ x hx=>(by cases hx)⟩
    have HA8:=Lib.hid hA8
    clear hA8
    go_upto_region 7 with fail
    obtain ⟨gb,hgb⟩:∃ b,w7.heap.size=b:=⟨_,rfl⟩
    rw [hgb] at HA8 ⊢
    generalize w7.alloc (.cells (bools (List.replicate wd false)).toArray 4)=w8 at *
    clear hgb c1 a0 hmk
    have a4:=HA8.out.ck.cell (i:=4) (v := .slice pp np cp) (λ _ _ _ _=>congrArg some HH.out.2.2.2.2.1)
    go_wp2_with fail
    go_loopw [46,5] (λ iv vv wr=>∃ i:Nat,iv = .int .i64 i∧vv = .bool (wholeP l ps s i)∧i≤np∧CkA ab h w e [] C1 gb (allP l ps s wd i) wr) (λ iv _ _=>np-(intOf iv).toNat)
    case atStart=>exact ⟨0,rfl,rfl,Nat.zero_le _,HA8.out⟩
    case round =>
     obtain ⟨i,rfl,rfl,hin,hCi⟩:=hrel
     clear a4
     by_cases hlt:i<np
     ·have hii:(i:Int)<(np:Int):=by omega
      have hi0:(0:Int)≤(i:Int):=by omega
      have hiw:IntKind.i64.wrap ((i:Int)+1)=((i+1:Nat):Int):=by rw [i64_of (by have:=HD.out.2.2.1;omega)];rfl
      obtain ⟨q,hq⟩:∃ q,ps[i]? = some q:=⟨_,List.getElem?_eq_getElem (by rw [HD.out.2.1];exact hlt)⟩
      have hDr:=HD.out.1.low (hCi.ck.low HD.out.2.2.2.1)
      obtain ⟨b,o,pb,cb,bc,hpp,hrg,_,_⟩:=hDr.at hq
      dsimp only at hpp
      subst hpp
      have hgd:ps.getD i default=q:=by rw [List.getD,hq];rfl
      obtain ⟨kd,y1,y2,y3,body⟩:=q
      dsimp only at hrg
      obtain ⟨bn,hbn⟩:∃ n,body.len=n:=⟨_,rfl⟩
      rw [hbn] at hrg
      have c0:=hrg 0 _ rfl
      have c1:=hrg 1 _ rfl
      have c2:=hrg 2 _ rfl
      have c3:=hrg 3 _ rfl
      have c4:=hrg 4 _ rfl
      rw [Nat.add_zero] at c0
      have hCl:=hCi.lay 49 [.int .i64 kd,.int .i64 y1,.int .i64 y2,.int .i64 y3,.slice pb bn cb]
      change CkA _ _ _ _ _ _ _ _ (wr.alloc (.cells #[.int .i64 kd,.int .i64 y1,.int .i64 y2,.int .i64 y3,.slice pb bn cb] 49)) at hCl
      obtain ⟨bw,ow,pw,mw,hwp,hwn,hcw,husw⟩:=HD.out.2.2.2.2.1.atW hq
      dsimp only at hwp
      subst hwp
      rw [HD.out.2.2.2.2.2.1] at hcw husw
      obtain ⟨bg,og,pr,cr,hpw,hgn,hcr,hrow,hnil⟩:=husw.get (by have:=wrB_at l ps i (show s<l.length by rw [HD.out.2.2.2.2.2.1];exact HS.out.2.2.1);rw [hgd] at this;exact this)
      subst hpw
      replace hcw:=hCl.ck.cell0 hcw hwn
      replace hcr:=hCl.ck.cell0 hcr hgn
      have hle:=wrB_le HD.out.1.sg ps i s HS.out.2.2.2.1
      have hle2:(wrB l ps i s).length≤wd:=by have:=HS.out.2.2.2.2.1;omega
      have hwh:wholeP l ps s (i+1)=(wholeP l ps s i || (!(wrB l ps i s).isEmpty && !decide (kd=1))):=by rw [wholeP,hgd]
      have hal:allP l ps s wd (i+1)=orT (allP l ps s wd i) (wrB l ps i s) (wrB l ps i s).length:=rfl
      have hae:(wrB l ps i s).isEmpty=true→allP l ps s wd (i+1)=allP l ps s wd i:=λ he=>by rw [hal,List.isEmpty_iff.1 he];exact orT_zero _ _
      generalize wrB l ps i s=row at *
      obtain ⟨rn,hrn⟩:∃ n,row.length=n:=⟨_,rfl⟩
      rw [hrn] at hcr hrow hle2 hal
      obtain ⟨z,hz⟩:∃ z,row.isEmpty=z:=⟨_,rfl⟩
      rw [hz] at hnil hwh hae
      obtain ⟨b1,hb1⟩:∃ c,((kd:Int) == 1)=c:=⟨_,rfl⟩
      have hb1n:((kd:Int) != 1) = !b1:=by rw [←hb1];rfl
      rw [show decide (kd=1)=b1 by rw [←hb1,Bool.eq_iff_iff];simp;omega] at hwh
      have HL:=Lib.hid (And.intro hCl (And.intro hrow (And.intro hle2 (And.intro hwh (And.intro hal (And.intro hae (And.intro hlt hrn)))))))
      have a9:=hCl.ck.cell (i:=9) (v := .slice (some ⟨bw,ow,none⟩) np wcc) (λ _ _ _ _=>congrArg some HH.out.2.2.2.2.2.2.2.2.2)
      have alen:=allP_len l ps s wd i
      have HAl:=Lib.hid alen
      clear alen
      obtain ⟨wh,hwhe⟩:∃ c,wholeP l ps s i=c:=⟨_,rfl⟩
      have HWh:=Lib.hid hwhe
      rw [hwhe] at HL ⊢
      clear hCi hDr hgd hq hrg hbn hlt hin hCl husw hrow hle hle2 hwh hal hae hwn hgn hz hwhe hrn
      have qE:=eq_nilB
      have qN:=ne_nilB
      go_upto_region 10 with fail
      obtain ⟨xp,hxp⟩:∃ b,wr.heap.size=b:=⟨_,rfl⟩
      rw [hxp] at HL ⊢
      generalize wr.alloc (.cells #[.int .i64 kd,.int .i64 y1,.int .i64 y2,.int .i64 y3,.slice pb bn cb] 49)=w5 at *
      clear hxp c0 c1 c2 c3 c4
      cases z
      case true =>
       go_wp2_with fail
       go_roundw
       case measure=>simp [intOf];have:=HL.out.2.2.2.2.2.2.1;omega
       case rel=>exact ⟨i+1,by go_num,by rw [HL.out.2.2.2.1];simp,HL.out.2.2.2.2.2.2.1,by rw [HL.out.2.2.2.2.2.1 rfl];exact HL.out.1.drop 1⟩
      case false =>
       have x0:=(HL.out.1.ck.at 0 rfl).cell (i:=0) rfl
       go_upto_region 12 with fail
       go_cut [5] from 63 to 69 (λ vv wz=>vv = .bool (wh || !b1)∧wz=w5)
       case first =>
        cases wh
        case false =>
         go_wp2_with fail
         go_meet
         exact ⟨by simp,rfl⟩
        case true =>
         go_wp2_with fail
         go_meet
         exact ⟨by simp,rfl⟩
       case rest =>
        obtain ⟨rfl,hwc⟩:=hcut
        have hwc2:=hwc.symm
        clear hwc
        subst hwc2
        clear x0 hcw a9 hcr
        go_wp2_with fail
        go_loopw [71] (λ kv wr=>∃ k:Nat,kv = .int .i64 k∧k≤rn∧CkA ab h w e [(xp,49, [.int .i64 kd,.int .i64 y1,.int .i64 y2,.int .i64 y3,.slice pb bn cb])] C1 gb (orT (allP l ps s wd i) row k) wr) (λ kv _=>rn-(intOf kv).toNat)
        case atStart=>exact ⟨0,rfl,Nat.zero_le _,by rw [orT_zero];exact HL.out.1⟩
        case round =>
         obtain ⟨k,rfl,hkn,hCk⟩:=hrel
         by_cases hlt:k<rn
         ·have hki:(k:Int)<(rn:Int):=by omega
          have hk0:(0:Int)≤(k:Int):=by omega
          have hkd:(k:Int)<(wd:Int):=by have:=HL.out.2.2.1;omega
          have hkw:IntKind.i64.wrap ((k:Int)+1)=((k+1:Nat):Int):=by rw [i64_of (by have:=HL.out.2.2.1;have:=HS.out.2.2.2.2.2;omega)];rfl
          have hro:=(hCk.ck.roa (λ _ h=>h) HL.out.2.1).ro
          have hxa:=bools_at row k (by rw [HL.out.2.2.2.2.2.2.2];exact hlt)
          obtain ⟨bq,oq,rfl⟩:=hro.sl hxa
          have cq:=hro.cell hxa
          have hka:k<(orT (allP l ps s wd i) row k).length:=by rw [orT_len,HAl.out];have:=HL.out.2.2.1;omega
          have ck:=hCk.row.cell (bools_at _ k hka)
          have fk:=hCk.row.frz k
          obtain ⟨xv,hxv⟩:∃ x,row.getD k false=x:=⟨_,rfl⟩
          obtain ⟨av,hav⟩:∃ x,(orT (allP l ps s wd i) row k).getD k false=x:=⟨_,rfl⟩
          rw [hxv] at cq
          rw [hav] at ck
          have hst:=hCk.set k (av || xv)
          rw [show (orT (allP l ps s wd i) row k).set k (av || xv)=orT (allP l ps s wd i) row (k+1) by rw [orT_succ,hav,hxv]] at hst
          have HK:=Lib.hid (And.intro hst hlt)
          clear hst hCk hro hxa hka hxv hav hlt hkn
          cases av
          case true =>
           go_wp2_with fail
           go_roundw
           case measure=>simp [intOf];have:=HK.out.2;omega
           case rel=>exact ⟨k+1,by go_num,HK.out.2,by simpa using HK.out.1⟩
          case false =>
           go_wp2_with fail
           go_roundw
           case measure=>simp [intOf];have:=HK.out.2;omega
           case rel=>exact ⟨k+1,by go_num,HK.out.2,by simpa using HK.out.1⟩
         ·obtain rfl:rn=k:=by omega
          have hki:¬(rn:Int)<(rn:Int):=by omega
          have HK:=Lib.hid (hCk.drop 1)
          clear hCk hlt hkn
          go_wp2_with fail
          go_roundw
          case measure=>simp [intOf];have:=HL.out.2.2.2.2.2.2.1;omega
          case rel=>exact ⟨i+1,by go_num,by rw [HL.out.2.2.2.1];simp,HL.out.2.2.2.2.2.2.1,by rw [HL.out.2.2.2.2.1];exact HK.out⟩
     ·obtain rfl:np=i:=by omega
      have hii:¬(np:Int)<(np:Int):=by omega
      obtain ⟨wh,hwh⟩:∃ c,wholeP l ps s np=c:=⟨_,rfl⟩
      rw [hwh]
      obtain ⟨AL,hAL⟩:∃ a,allP l ps s wd np=a:=⟨_,rfl⟩
      have hall:=allP_len l ps s wd np
      rw [hAL] at hCi hall
      obtain ⟨cf,hcf⟩:∃ c,AL.contains false=c:=⟨_,rfl⟩
      have hro:RO wr (.slice (some ⟨gb,0,none⟩) wd wd) 1 wd (bools AL):=by have:=hCi.row.roa.ro;simpa [bools,hall] using this
      have hb:=hasB_any (w:=wr) (il:=AL) hro (by have:=HS.out.2.2.2.2.2;omega) false
      rw [hcf] at hb
      obtain ⟨plc,hpl⟩:=(HD.out.1.low (hCi.ck.low HD.out.2.2.2.1)).pl
      dsimp only at hpl
      have a1:=hCi.ck.cell (i:=1) (v := .slice lp ln lc) (λ _ _ _ _=>congrArg some HH.out.2.1)
      have HP:=Lib.hid (place_any a1 hpl.ro s)
      have HB:=Lib.hid (And.intro hb (And.intro hwh (And.intro hAL hcf)))
      have HCi:=Lib.hid hCi.ck
      clear hro hb hwh hAL hcf hall hCi hlt hin hpl a1
      cases wh
      case true =>
       go_wp2_with fail
       refine HP.out.mono ?_;rintro en w11 ⟨q4,q5,q6,rfl,hb11⟩
       go_wp2_with fail
       refine (fail_any (HCi.out.below hb11) false q4 q5 q6 14 (by decide)).mono ?_;rintro en w12 ⟨rfl,h12⟩
       have H12:=Lib.hid (h12.iff (C':=Till g (s+1)) (by rw [Till.succ,HS.out.2.1,←HC1.out,HB.out.2.1,HB.out.2.2.1,HB.out.2.2.2];simp []))
       clear h12 hb11
       go_wp2_with fail
       go_roundw
       case measure=>simp [intOf];have:=HS.out.2.2.1;omega
       case rel=>exact ⟨s+1,by go_num,HS.out.2.2.1,H12.out⟩
      case false =>
       go_wp2_with fail
       refine HB.out.1.mono ?_;rintro en w10 ⟨rfl,rfl⟩
       go_wp2_with fail
       refine HP.out.mono ?_;rintro en w11 ⟨q4,q5,q6,rfl,hb11⟩
       go_wp2_with fail
       refine (fail_any (HCi.out.below hb11) cf q4 q5 q6 14 (by decide)).mono ?_;rintro en w12 ⟨rfl,h12⟩
       have H12:=Lib.hid (h12.iff (C':=Till g (s+1)) (by rw [Till.succ,HS.out.2.1,←HC1.out,HB.out.2.1,HB.out.2.2.1,HB.out.2.2.2];simp [and_assoc]))
       clear h12 hb11
       go_wp2_with fail
       go_roundw
       case measure=>simp [intOf];have:=HS.out.2.2.1;omega
       case rel=>exact ⟨s+1,by go_num,HS.out.2.2.1,H12.out⟩
  ·obtain rfl:N=s:=by omega
   have hss:¬(N:Int)<(N:Int):=by omega
   have HCs:=Lib.hid hCs
   clear hlt hsn hCs
   go_wp2_with fail
   go_end0
   exact ⟨rfl,HCs.out⟩
theorem row_low {w:World} {base base' e size n:Nat} {v:Value} {xs:List Value} (h:w.ownsRow base e size v n xs) (hb:base'≤base):w.ownsRow base' e size v n xs:=by
 refine ⟨h.1,?_⟩
 rcases h.2 with h2 | ⟨g,cap,cur,hv,hg,h3⟩
 ·exact .inl h2
 ·exact .inr ⟨g,cap,cur,hv,Nat.le_trans hb hg,h3⟩
def CloneB (w:World) (l:List Bool) (e:Ending) (w':World):Prop:=∃ v',e = .returned v'∧w'.ownsRow w.heap.size 4 1 v' l.length (bools l)∧(l = []→v' = .slice none 0 0)∧Below w.heap.size w w'
set_option maxRecDepth 100000 in
theorem clone_bools {w:World} {p:Option Addr} {m c:Nat} {l:List Bool} (h:RO w (.slice p m c) 1 m (bools l)) (hp:p.isNone=l.isEmpty) (hm:m≤1000000):Calls Try.prog 72 #[.slice p m c] w (CloneB w l):=by
 have hl:l.length=m:=by have:=h.1;simpa [bools] using this
 have H:=Lib.hid (And.intro h (And.intro hl hm))
 cases p with
 | none =>
  have hx:l = []:=by simpa using hp.symm
  have HX:=Lib.hid hx
  have hnil:=λ w'=>Lib.run_eql_slice_nil (P:=Try.prog) w' 73 4 none m c 0 0 Try.underlying73
  clear h hl hm hp hx
  go_enter Try.func72,Try.ntmps72
  go_wp2_with fail
  go_ret
  refine ⟨_,rfl,?_,λ _=>rfl,Below.refl _ _⟩
  rw [HX.out]
  exact ⟨rfl,.inl ⟨rfl,rfl⟩⟩
 | some ad =>
  have hne:l ≠ []:=λ e=>by subst e;cases hp
  have HN:=Lib.hid hne
  have hnil:=λ w'=>Lib.run_eql_slice_nil (P:=Try.prog) w' 73 4 (some ad) m c 0 0 Try.underlying73
  have hs0:=(Blk.new (w:=w) 4 []).own (n:=0) (size:=1) (by simp) (Nat.zero_le _) w.heap.size (Nat.le_refl _)
  have HS:=Lib.hid (And.intro hs0 (And.intro (H.out.1.below (Below.new w (.cells #[] 4))) (Below.new w (.cells #[] 4))))
  clear h hl hm hp hne hs0
  go_enter Try.func72,Try.ntmps72
  go_wp2_with (at_builtin;go_must (refine wpList_appR rfl  _ _ 73 rfl TBools w.heap.size (.slice (some ⟨w.heap.size,0,none⟩) 0 0) 0 [] rfl HS.out.1 _ m (bools l) rfl HS.out.2.1 (bools_one l) (by have:=H.out.2.2;omega) (by have:=H.out.2.2;omega) (by simp) ?_);intro v4 w4 happ;have HP:=Lib.hid happ;clear happ)
  go_ret
  refine ⟨_,rfl,?_,λ e=>absurd e HN.out,HP.out.below HS.out.2.2 (by simp) ?_⟩
  ·have:=HP.out.own;rw [Nat.zero_add,List.nil_append] at this;rw [H.out.2.1];exact this
  ·intro k hk
   have:k=w.heap.size:=by simpa [Value.ownBlock] using hk.symm
   omega
theorem UsM.give {base g:Nat} {w w':World} {u:Us} {V:Nat→Value} (h:UsM base g w u V) {k:Nat} (hk:k<u.length) (h0:u.getD k [] = []) {r:List Bool} {v':Value} (hb:Below w.heap.size w w') (ho:w'.ownsRow w.heap.size 4 1 v' r.length (bools r)) (hz:r = []→v' = .slice none 0 0) :
  UsM base g (w'.setCell ⟨g,k,none⟩ v') (u.set k r) (λ j=>if j=k then v' else V j):=by
 have hbg:base≤w.heap.size:=h.size
 have hm2:=h.mem.put k (v':=v') (n:=r.length) (xs:=bools r) (w':=w') (row_low ho hbg) hb.size (λ b hb' => .inr (own_lt' ho b hb').1) (λ b hb' _=>hb.block b hb')
 have hR:(upd (λ k=>(V k,bools (u.getD k []))) k (v',bools r))=λ j=>((if j=k then v' else V j),bools ((u.set k r).getD j [])):=by
  funext j
  unfold upd
  rw [getD_set_us]
  by_cases e:j=k
  ·subst e;simp [hk]
  ·have e':¬(k=j∧k<u.length):=λ h=>e h.1.symm
   simp [e,e']
 rw [hR] at hm2
 refine ⟨hm2.keep (by simp) λ j b hbj=>Below.heap_setCell _ _ _ _ (λ e=>hm2.nb j (by rw [hbj,e])),?_,λ j hj => ?_⟩
 ·rw [List.length_set,←range_map_upd V _ u.length k v' (λ j _=>rfl)]
  exact (h.blk.next hb).set k _
 ·rw [getD_set_us] at hj
  split at hj
  ·rename_i e
   show (if j=k then _ else V j)=_
   rw [if_pos e.1.symm];exact hz hj
  ·rename_i e
   show (if j=k then _ else V j)=_
   rw [if_neg (λ e'=>e ⟨e'.symm,hk⟩)]
   exact h.nil j hj
theorem UsM.stay {base g:Nat} {w w':World} {u:Us} {V:Nat→Value} (h:UsM base g w u V) (hs:w.heap.size≤w'.heap.size) (hk:∀ k,FV g V k→w'.heap[k]? = w.heap[k]?):UsM base g w' u V :=
 ⟨h.mem.keep hs λ j b hb=>hk b (.inr ⟨j,hb⟩),by have:=h.blk;unfold Blk at this ⊢;rw [hk g (.inl rfl)];exact this,h.nil⟩
def takeU (u:Us) (i:Nat):Us:=(List.range u.length).map λ j=>if j<i then u.getD j [] else []
theorem takeU_len (u:Us) (i:Nat):(takeU u i).length=u.length:=by simp [takeU]
theorem takeU_at (u:Us) (i:Nat) {j:Nat} (hj:j<u.length):(takeU u i)[j]? = some (if j<i then u.getD j [] else []):=by
 unfold takeU;rw [List.getElem?_map,List.getElem?_range hj];rfl
theorem takeU_zero (u:Us):takeU u 0=List.replicate u.length []:=by
 unfold takeU
 apply List.ext_getElem?
 intro j
 rw [List.getElem?_map,List.getElem?_replicate]
 by_cases hj:j<u.length
 ·rw [List.getElem?_range hj,if_pos hj];simp
 ·rw [List.getElem?_eq_none (by rw [List.length_range];omega),if_neg hj];rfl
theorem takeU_full (u:Us):takeU u u.length=u:=by
 apply List.ext_getElem?
 intro j
 by_cases hj:j<u.length
 ·rw [takeU_at u _ hj,if_pos hj,List.getD,List.getElem?_eq_getElem hj];rfl
 ·rw [List.getElem?_eq_none (by rw [takeU_len];omega),List.getElem?_eq_none (by omega)]
theorem takeU_succ (u:Us) (i:Nat):takeU u (i+1)=(takeU u i).set i (u.getD i []):=by
 apply List.ext_getElem?
 intro j
 rw [List.getElem?_set]
 by_cases hj:j<u.length
 ·rw [takeU_at u _ hj]
  by_cases e:i=j
  ·subst e;rw [if_pos (Nat.lt_succ_self _),if_pos rfl,if_pos (by rw [takeU_len];exact hj)]
  ·rw [if_neg e,takeU_at u _ hj]
   by_cases e2:j<i
   ·rw [if_pos e2,if_pos (by omega)]
   ·rw [if_neg e2,if_neg (by omega)]
 ·rw [List.getElem?_eq_none (by rw [takeU_len];omega)]
  split
  ·rw [if_neg (by rw [takeU_len];omega)]
  ·rw [List.getElem?_eq_none (by rw [takeU_len];omega)]
set_option maxRecDepth 100000 in
set_option maxHeartbeats 4000000 in
theorem sclone_any {b g N:Nat} {w:World} {u:Us} {V:Nat→Value} (h:UsM b g w u V) (hl:u.length=N) (hN:N≤1000) (hrl:∀ k,(u.getD k []).length≤1000000):Calls Try.prog 67 #[usV g N] w (UsesR w N u):=by
 have H:=Lib.hid (And.intro h (And.intro hl (And.intro hN hrl)))
 have hmk:=λ w=>mk_sure N (by omega) w
 have hs:=UsM.start (w:=w) (base:=w.heap.size) N (Nat.le_refl _)
 have hb1:=Below.new w (.cells ((List.range N).map λ _=>Value.slice none 0 0).toArray 73)
 have HS:=Lib.hid (And.intro hs hb1)
 clear h hl hN hrl hs hb1
 go_enter Try.func67,Try.ntmps67
 go_upto_region 2 with fail
 generalize w.alloc (.cells ((List.range N).map λ _=>Value.slice none 0 0).toArray 73)=w1 at *
 clear hmk
 go_wp2_with fail
 go_loopw [11] (λ iv wr=>∃ (i:Nat) (V':Nat→Value),iv = .int .i64 i∧i≤N∧UsM w.heap.size w.heap.size wr (takeU u i) V'∧Below w.heap.size w wr) (λ iv _=>N-(intOf iv).toNat)
 case atStart=>exact ⟨0,_,rfl,Nat.zero_le _,by rw [takeU_zero,H.out.2.1];exact HS.out.1,HS.out.2⟩
 case round =>
  obtain ⟨i,V',rfl,hin,hU,hbl⟩:=hrel
  by_cases hlt:i<N
  ·have hii:(i:Int)<(N:Int):=by omega
   have hi0:(0:Int)≤(i:Int):=by omega
   have hiw:IntKind.i64.wrap ((i:Int)+1)=((i+1:Nat):Int):=by rw [i64_of (by have:=H.out.2.2.1;omega)];rfl
   have hus:=(H.out.1.below hbl).us
   rw [H.out.2.1] at hus
   obtain ⟨bb,oo,pr,cr,hpe,_,hcr,hrow,hnil⟩:=hus.get (us_at H.out.2.1 hlt)
   cases hpe
   rw [Nat.zero_add] at hcr
   have HC:=Lib.hid (clone_bools hrow.ro hnil (H.out.2.2.2 i))
   obtain ⟨rn,hrn⟩:∃ n,(u.getD i []).length=n:=⟨_,rfl⟩
   rw [hrn] at HC hcr
   have hi2:i<(takeU u i).length:=by rw [takeU_len,H.out.2.1];exact hlt
   have ht0:(takeU u i).getD i [] = []:=by rw [List.getD,takeU_at u i (by rw [H.out.2.1];exact hlt)];simp
   have HL:=Lib.hid (And.intro hU (And.intro hbl (And.intro hlt (And.intro hi2 ht0))))
   clear hU hbl hlt hin hi2 ht0 hus hrow hnil hrn
   go_wp2_with fail
   refine HC.out.mono ?_;rintro en w6 ⟨v',rfl,ho,hz,hb6⟩
   obtain ⟨pv,cv,rfl⟩:=ownsRow_form ho
   have HG:=Lib.hid (And.intro (HL.out.1.give HL.out.2.2.2.1 HL.out.2.2.2.2 hb6 ho hz) ((Below.trans HL.out.2.1 (hb6.mono HL.out.2.1.size)).setCell (show w.heap.size≤(⟨w.heap.size,i,none⟩:Addr).block from Nat.le_refl _) (.slice pv (u.getD i []).length cv)))
   have hU6:=HL.out.1.below hb6
   have c6:=hU6.row HL.out.2.2.2.1
   have f6:=hU6.blk.frz i
   clear ho hz hb6 hU6 hcr
   go_wp2_with fail
   go_roundw
   case measure=>simp [intOf];have:=HL.out.2.2.1;omega
   case rel=>exact ⟨i+1,_,by go_num,HL.out.2.2.1,by rw [takeU_succ];exact HG.out.1,HG.out.2⟩
  ·obtain rfl:N=i:=by omega
   have hii:¬(N:Int)<(N:Int):=by omega
   have HU:=Lib.hid (And.intro hU hbl)
   clear hlt hin hU hbl
   go_wp2_with fail
   go_ret
   refine ⟨_,V',rfl,?_,HU.out.2⟩
   have:=HU.out.1
   rw [←H.out.2.1,takeU_full] at this
   exact this
theorem leadsP_no {l:List Sg} {ps:List Pr} {i k:Nat} (h:(ps.getD i default).kind=3∨(ps.getD k default).kind=3∨(i=k∧(ps.getD i default).kind=2)):leadsP l ps i k=false:=by unfold leadsP;rw [if_pos h]
theorem leadsP_yes {l:List Sg} {ps:List Pr} {i k:Nat} (h:¬((ps.getD i default).kind=3∨(ps.getD k default).kind=3∨(i=k∧(ps.getD i default).kind=2))):leadsP l ps i k=(List.range l.length).any λ s=>meetP (wrB l ps i s) (rdB l ps k s):=by unfold leadsP;rw [if_neg h];rfl
theorem rdB_len {base:Nat} {w:World} {p:Option Addr} {c:Nat} {l:List Sg} (h:SgsM base w p c l) (ps:List Pr) (i s:Nat):(rdB l ps i s).length≤1000000:=by
 unfold rdB
 have hw:WU (sizes l) (readsP (sizes l) (ps.getD i default).body):=WU.adds _ (WU.none _)
 rcases hw.2 s with e | e
 ·rw [e];exact Nat.zero_le _
 ·rw [e,sizes,List.getD,List.getElem?_map]
  cases hx:l[s]? with
  | none=>exact Nat.zero_le _
  | some x=>have:=(h.sz x (List.mem_of_getElem? hx)).2;show x.size≤1000000;omega
structure AN (base ab:Nat) (x:AX) (ro:Value) (l:List Sg) (ps:List Pr) (il:List Int) (sts:List (Nat × List Bool)) (p1 p2 p3 e:Int) (w:World):Prop where
 an:Blk w ab 103 ((x.h l.length il.length ps.length sts.length ro).cells p1 p2 p3 e)
 dd:DD base w x l ps il sts
 ud:UD (λ b=>b≠ab) w x l ps
 hb:base≤ab
theorem AN.below {base ab:Nat} {x:AX} {ro:Value} {l:List Sg} {ps:List Pr} {il:List Int} {sts:List (Nat × List Bool)} {p1 p2 p3 e:Int} {w w':World} (h:AN base ab x ro l ps il sts p1 p2 p3 e w) (hb:Below w.heap.size w w'):AN base ab x ro l ps il sts p1 p2 p3 e w' :=
 ⟨h.an.next hb,h.dd.low (hb.mono (by have:=h.hb;have:=h.an.lt;omega)),h.ud.turn λ b hk hlt=>⟨hk,hb.block b hlt⟩,h.hb⟩
set_option maxRecDepth 100000 in
set_option maxHeartbeats 8000000 in
theorem pleads_any {base ab:Nat} {w:World} {x:AX} {l:List Sg} {ps:List Pr} {il:List Int} {sts:List (Nat × List Bool)} {ro:Value} {p1 p2 p3 e:Int} (hA:AN base ab x ro l ps il sts p1 p2 p3 e w) (i k:Nat) (hi:i<ps.length) (hk:k<ps.length) :
  Calls Try.prog 54 #[.pointer (some ⟨ab,0,none⟩),.int .i64 i,.int .i64 k] w λ en w'=>en = .returned (.bool (leadsP l ps i k))∧Below w.heap.size w w':=by
 obtain ⟨sp,sc,lp,ln,lc,ip,ic,op,on,oc,pp,cp,qp,qn,qc,tp,tc,dp,dc,wp,wcc⟩:=x
 obtain ⟨np,hnp⟩:∃ n,ps.length=n:=⟨_,rfl⟩
 obtain ⟨N,hN⟩:∃ n,l.length=n:=⟨_,rfl⟩
 obtain ⟨ni,hni⟩:∃ n,il.length=n:=⟨_,rfl⟩
 obtain ⟨nt,hnt⟩:∃ n,sts.length=n:=⟨_,rfl⟩
 obtain ⟨qi,hqi⟩:∃ q,ps[i]? = some q:=⟨_,List.getElem?_eq_getElem hi⟩
 obtain ⟨qk,hqk⟩:∃ q,ps[k]? = some q:=⟨_,List.getElem?_eq_getElem hk⟩
 obtain ⟨b,o,pb,cb,bc,hpp,hrg,_,_⟩:=hA.dd.at hqi
 dsimp only at hpp
 subst hpp
 obtain ⟨b2,o2,pb2,cb2,bc2,hpp,hrg2,_,_⟩:=hA.dd.at hqk
 dsimp only at hpp
 cases hpp
 have hgi:ps.getD i default=qi:=by rw [List.getD,hqi];rfl
 have hgk:ps.getD k default=qk:=by rw [List.getD,hqk];rfl
 have hki:(ps.getD i default).kind=qi.kind:=by rw [hgi]
 have hkk:(ps.getD k default).kind=qk.kind:=by rw [hgk]
 obtain ⟨kd,y1,y2,y3,body⟩:=qi
 obtain ⟨kd2,z1,z2,z3,body2⟩:=qk
 dsimp only at hrg hrg2 hki hkk
 obtain ⟨bn,hbn⟩:∃ n,body.len=n:=⟨_,rfl⟩
 obtain ⟨bn2,hbn2⟩:∃ n,body2.len=n:=⟨_,rfl⟩
 rw [hbn] at hrg
 rw [hbn2] at hrg2
 have c0:=hrg 0 _ rfl
 have d0:=hrg2 0 _ rfl
 have c1:=hrg 1 _ rfl
 have d1:=hrg2 1 _ rfl
 have c2:=hrg 2 _ rfl
 have d2:=hrg2 2 _ rfl
 have c3:=hrg 3 _ rfl
 have d3:=hrg2 3 _ rfl
 have c4:=hrg 4 _ rfl
 have d4:=hrg2 4 _ rfl
 rw [Nat.add_zero] at c0 d0
 obtain ⟨R,hR⟩:∃ r,leadsP l ps i k=r:=⟨_,rfl⟩
 rw [hR]
 obtain ⟨ci,hci⟩:∃ c,decide (kd=3)=c:=⟨_,rfl⟩
 obtain ⟨ck,hck⟩:∃ c,decide (kd2=3)=c:=⟨_,rfl⟩
 obtain ⟨ei,hei⟩:∃ c,((i:Int) == (k:Int))=c:=⟨_,rfl⟩
 obtain ⟨e2,he2⟩:∃ c,((kd2:Int) == 2)=c:=⟨_,rfl⟩
 have hcond:((ps.getD i default).kind=3∨(ps.getD k default).kind=3∨(i=k∧(ps.getD i default).kind=2))↔(ci || ck || (ei && e2))=true:=by
  have h1:kd=3↔ci=true:=by rw [←hci];simp
  have h2:kd2=3↔ck=true:=by rw [←hck];simp
  have h3:i=k↔ei=true:=by rw [←hei];simp;omega
  have h4:kd2=2↔e2=true:=by rw [←he2];simp;omega
  rw [hki,hkk,h1,h2,h3]
  rw [Bool.or_eq_true,Bool.or_eq_true,Bool.and_eq_true,←h4,or_assoc]
  have h5:i=k→kd=kd2:=λ e=>by subst e;rw [←hki,←hkk]
  constructor
  ·rintro (h | h | ⟨h,h'⟩)
   ·exact .inl h
   ·exact .inr (.inl h)
   ·exact .inr (.inr ⟨h,by rw [←h5 (h3.2 h)];exact h'⟩)
  ·rintro (h | h | ⟨h,h'⟩)
   ·exact .inl h
   ·exact .inr (.inl h)
   ·exact .inr (.inr ⟨h,by rw [h5 (h3.2 h)];exact h'⟩)
 have HCi:=Lib.hid (λ w=>clocked_b (w:=w) kd y1 y2 y3 pb bn cb hci)
 have HCk:=Lib.hid (λ w=>clocked_b (w:=w) kd2 z1 z2 z3 pb2 bn2 cb2 hck)
 have hAn:=hA.an
 rw [hN,hni,hnp,hnt] at hAn
 dsimp only [AX.h,AHd.cells] at hAn
 have a4:=hAn.cell (i:=4) rfl
 have H:=Lib.hid (And.intro hA (And.intro hAn (And.intro hN (And.intro hnp (And.intro hcond (And.intro hR (And.intro hqi (And.intro hqk (And.intro (show i<np by omega) (And.intro (show k<np by omega) (show N≤1000 by rw [←hN];exact hA.dd.sg.le)))))))))))
 have hii:(i:Int)<(np:Int):=by omega
 have hi0:(0:Int)≤(i:Int):=by omega
 have hkk2:(k:Int)<(np:Int):=by omega
 have hk0:(0:Int)≤(k:Int):=by omega
 clear hA hAn hN hnp hni hnt hcond hR hqi hqk hi hk hgi hgk hki hkk hci hck hbn hbn2 hrg hrg2
 go_enter Try.func54,Try.ntmps54
 go_upto_region 1 with fail
 go_cut [44] from 8 to 45 (λ v wz=>v = .bool (ci || ck || (ei && e2))∧Below w.heap.size w wz)
 case first =>
  go_wp2_with fail
  refine (HCi.out _).mono ?_;rintro en w5 ⟨rfl,hb5⟩
  cases ci
  case true =>
   have HB:=Lib.hid hb5
   clear hb5
   go_wp2_with fail
   go_meet
   exact ⟨by simp,HB.out⟩
  case false =>
   replace a4:w5.cell? _=_:=(hb5.cell (World.block_lt_of_cell? _ _ a4)).trans a4
   replace d0:w5.cell? _=_:=(hb5.cell (World.block_lt_of_cell? _ _ d0)).trans d0
   replace d1:w5.cell? _=_:=(hb5.cell (World.block_lt_of_cell? _ _ d1)).trans d1
   replace d2:w5.cell? _=_:=(hb5.cell (World.block_lt_of_cell? _ _ d2)).trans d2
   replace d3:w5.cell? _=_:=(hb5.cell (World.block_lt_of_cell? _ _ d3)).trans d3
   replace d4:w5.cell? _=_:=(hb5.cell (World.block_lt_of_cell? _ _ d4)).trans d4
   have HB:=Lib.hid hb5
   clear hb5 c0 c1 c2 c3 c4
   go_wp2_with fail
   refine (HCk.out _).mono ?_;rintro en w6 ⟨rfl,hb6⟩
   replace a4:w6.cell? _=_:=(hb6.cell (World.block_lt_of_cell? _ _ a4)).trans a4
   replace d0:w6.cell? _=_:=(hb6.cell (World.block_lt_of_cell? _ _ d0)).trans d0
   have HB6:=Lib.hid (Below.next HB.out hb6)
   clear hb6 d1 d2 d3 d4
   cases ck
   case true =>
    clear hei he2
    go_wp2_with fail
    go_meet
    exact ⟨by simp,HB6.out⟩
   case false =>
    cases ei
    case false =>
     clear he2
     go_wp2_with fail
     go_meet
     exact ⟨by simp,HB6.out⟩
    case true =>
     cases e2
     case false =>
      go_wp2_with fail
      go_meet
      exact ⟨by simp,HB6.out⟩
     case true =>
      go_wp2_with fail
      go_meet
      exact ⟨by simp,HB6.out⟩
 case rest =>
  obtain ⟨rfl,hbc⟩:=hcut
  obtain ⟨z,hz⟩:∃ z,(ci || ck || (ei && e2))=z:=⟨_,rfl⟩
  rw [hz]
  have HZ:=Lib.hid hz
  have HBc:=Lib.hid hbc
  clear hz hbc a4 c0 c1 c2 c3 c4 d0 d1 d2 d3 d4 hei he2
  cases z
  case true =>
   go_wp2_with fail
   go_ret
   exact ⟨congrArg (λ b=>Ending.returned (Value.bool b)) (by rw [←H.out.2.2.2.2.2.1,leadsP_no (H.out.2.2.2.2.1.2 HZ.out)]),HBc.out⟩
  case false =>
   have hyes:=leadsP_yes (l:=l) (ps:=ps) (i:=i) (k:=k) (λ hc=>by have:=H.out.2.2.2.2.1.1 hc;rw [HZ.out] at this;cases this)
   rw [H.out.2.2.2.2.2.1,H.out.2.2.1] at hyes
   have HY:=Lib.hid hyes
   clear hyes
   have a0:=(H.out.2.1.next HBc.out).cell (i:=0) rfl
   obtain ⟨bw,ow,pw,mw,hwp,hwn,hcw,husw⟩:=H.out.1.ud.atW H.out.2.2.2.2.2.2.1
   dsimp only at hwp
   subst hwp
   rw [H.out.2.2.1] at hcw husw
   obtain ⟨bd,od,pd,md,hdp,hdn,hcd,husd⟩:=H.out.1.ud.atR H.out.2.2.2.2.2.2.2.1
   dsimp only at hdp
   subst hdp
   rw [H.out.2.2.1] at hcd husd
   have hgi:ps.getD i default=⟨kd,y1,y2,y3,body⟩:=by rw [List.getD,H.out.2.2.2.2.2.2.1];rfl
   have hgk:ps.getD k default=⟨kd2,z1,z2,z3,body2⟩:=by rw [List.getD,H.out.2.2.2.2.2.2.2.1];rfl
   have husw2:US (λ b=>b≠ab) w (.slice pw N mw) (writesP (sizes l) kAll (ps.getD i default).body):=by rw [hgi];exact husw
   have husd2:US (λ b=>b≠ab) w (.slice pd N md) (readsP (sizes l) (ps.getD k default).body):=by rw [hgk];exact husd
   have HUw:=Lib.hid (And.intro husw2 (And.intro husd2 (And.intro hcw hcd)))
   clear husw husd husw2 husd2 hgi hgk hcw hcd hwn hdn
   go_wp2_with fail
   go_loopw [51] (λ sv wr=>∃ s:Nat,sv = .int .i64 s∧s≤N∧Below w.heap.size w wr∧(∀ t,t<s→meetP (wrB l ps i t) (rdB l ps k t)=false)) (λ sv _=>N-(intOf sv).toNat)
   case atStart=>exact ⟨0,rfl,Nat.zero_le _,HBc.out,λ t ht=>absurd ht (Nat.not_lt_zero _)⟩
   case round =>
    obtain ⟨s,rfl,hsn,hbr,hno⟩:=hrel
    clear a0
    by_cases hlt:s<N
    ·have hss:(s:Int)<(N:Int):=by omega
     have hs0:(0:Int)≤(s:Int):=by omega
     have hsw:IntKind.i64.wrap ((s:Int)+1)=((s+1:Nat):Int):=by rw [i64_of (by have:=H.out.2.2.2.2.2.2.2.2.2.2;omega)];rfl
     have hsl:s<l.length:=by rw [H.out.2.2.1];exact hlt
     have hold:∀ {a:Addr} {v:Value},w.cell? a=some v→wr.cell? a=some v:=λ hv=>(hbr.cell (World.block_lt_of_cell? _ _ hv)).trans hv
     obtain ⟨bg,og,pr,cr,hpw,_,hcr,hrow,_⟩:=HUw.out.1.get (wrB_at l ps i hsl)
     subst hpw
     obtain ⟨bh,oh,pr2,cr2,hpd,_,hcr2,hrow2,_⟩:=HUw.out.2.1.get (rdB_at l ps k hsl)
     subst hpd
     replace hcr:=hold hcr
     replace hcr2:=hold hcr2
     have hcw:=hold HUw.out.2.2.1
     have hcd:=hold HUw.out.2.2.2
     have hr1:=(hrow.turn (A':=λ b=>b≠ab) (w':=wr.drew) λ b hk hlt=>⟨hk,hbr.block b hlt⟩).ro
     have hr2:=(hrow2.turn (A':=λ b=>b≠ab) (w':=wr.drew) λ b hk hlt=>⟨hk,hbr.block b hlt⟩).ro
     have hm:=pmeet_any hr1 hr2 (wrB_len H.out.1.dd.sg ps i s) (rdB_len H.out.1.dd.sg ps k s)
     obtain ⟨m,hmm⟩:∃ m,meetP (wrB l ps i s) (rdB l ps k s)=m:=⟨_,rfl⟩
     rw [hmm] at hm
     obtain ⟨rn,hrn⟩:∃ n,(wrB l ps i s).length=n:=⟨_,rfl⟩
     obtain ⟨rn2,hrn2⟩:∃ n,(rdB l ps k s).length=n:=⟨_,rfl⟩
     rw [hrn] at hm hcr
     rw [hrn2] at hm hcr2
     have hAr:=H.out.2.1.next hbr
     have a8:=hAr.cell (i:=8) rfl
     have a9:=hAr.cell (i:=9) rfl
     have HM:=Lib.hid (And.intro hm (And.intro hmm (And.intro hlt (And.intro (Below.trans hbr ((Below.refl _ _).drew:Below w.heap.size wr wr.drew)) hno))))
     clear hm hmm hlt hsn hbr hno hsl hold hrow hrow2 hr1 hr2 hrn hrn2 hAr
     go_upto_region 6 with fail
     refine wp_region_still_tail 20 (by kernel_rfl) (by kernel_rfl) ?_
     simp only [List.take_succ_cons,List.take_zero,List.drop_succ_cons,List.drop_zero]
     change wpStill _ _ wr.drew (λ a'=>wpList _ _ _ _ a' wr.drew) _ _
     replace hcr:wr.drew.cell? _=_:=hcr
     replace hcr2:wr.drew.cell? _=_:=hcr2
     replace hcw:wr.drew.cell? _=_:=hcw
     replace hcd:wr.drew.cell? _=_:=hcd
     replace a8:wr.drew.cell? _=_:=a8
     replace a9:wr.drew.cell? _=_:=a9
     generalize wr.drew=wz at *
     refine WS.out ?_
     iterate 20 (refine ws_step (λ K hK => ?_);go_simp;refine hK _ ?_;clear hK K)
     refine ws_nil ?_
     clear hcr hcr2 hcw hcd a8 a9
     go_wp2_with fail
     refine HM.out.1.mono ?_;rintro en w9 ⟨rfl,rfl⟩
     cases m
     case false =>
      go_wp2_with fail
      go_roundw
      case measure=>simp [intOf];have:=HM.out.2.2.1;omega
      case rel =>
       refine ⟨s+1,by go_num,HM.out.2.2.1,HM.out.2.2.2.1,λ t ht => ?_⟩
       by_cases e9:t=s
       ·subst e9;exact HM.out.2.1
       ·exact HM.out.2.2.2.2 t (by omega)
     case true =>
      go_wp2_with fail
      go_ret
      exact ⟨congrArg (λ b=>Ending.returned (Value.bool b)) (by rw [HY.out,List.any_eq_true.2 ⟨s,List.mem_range.2 HM.out.2.2.1,HM.out.2.1⟩]),HM.out.2.2.2.1⟩
    ·obtain rfl:N=s:=by omega
     have hss:¬(N:Int)<(N:Int):=by omega
     have HF:=Lib.hid (And.intro hbr hno)
     clear hlt hsn hbr hno
     go_wp2_with fail
     go_ret
     exact ⟨congrArg (λ b=>Ending.returned (Value.bool b)) (by rw [HY.out,List.any_eq_false.2 λ t ht=>by rw [HF.out.2 t (List.mem_range.1 ht)];simp]),HF.out.1⟩
end Go.Proofs.Ytlklleaocbnbcaa
