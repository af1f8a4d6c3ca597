import Derived.Test.YtlklleaocbnbcaaZ24
namespace Go.Proofs.Ytlklleaocbnbcaa
set_option linter.unusedVariables false
open Go.RowKit Go.Sort
def wrB (l:List Sg) (ps:List Pr) (i s:Nat):List Bool:=(writesP (sizes l) kAll (ps.getD i default).body).getD s []
def rdB (l:List Sg) (ps:List Pr) (i s:Nat):List Bool:=(readsP (sizes l) (ps.getD i default).body).getD s []
def drvK (l:List Sg) (ps:List Pr) (i s k:Nat):Bool := !(wrB l ps k s).isEmpty && (!(decide ((ps.getD i default).kind=1) && decide ((ps.getD k default).kind=1)) || meetP (wrB l ps i s) (wrB l ps k s))
def drvS (l:List Sg) (ps:List Pr) (il:List Int) (i s:Nat):Prop:=(wrB l ps i s).isEmpty=false→il.contains (s:Int)=false∧Till (λ k=>drvK l ps i s k=false) i
def drivesC (l:List Sg) (ps:List Pr) (il:List Int):Prop:=Till (λ i=>Till (λ s=>drvS l ps il i s) l.length) ps.length
theorem Ck.ud {ab:Nat} {h:AHd} {w0 W:World} {e0:Int} {ls:Bx} {C:Prop} (hc:Ck ab h w0 e0 ls C W) {x:AX} {l:List Sg} {ps:List Pr} (hU:UD (λ b=>b≠ab) w0 x l ps):UD (λ b=>b≠ab) W x l ps:=hU.turn λ b hb hlt=>⟨hb,hc.old hlt hb⟩
theorem Ck.cell0 {ab:Nat} {h:AHd} {w0 W:World} {e0:Int} {ls:Bx} {C:Prop} (hc:Ck ab h w0 e0 ls C W) {a:Addr} {v:Value} (hv:w0.cell? a=some v) (hn:a.block≠ab):W.cell? a=some v :=
 (World.cell?_of_block (hc.old (World.block_lt_of_cell? _ _ hv) hn)).trans hv
theorem wrB_len {base:Nat} {w:World} {p:Option Addr} {c:Nat} {l:List Sg} (h:SgsM base w p c l) (ps:List Pr) (i s:Nat):(wrB l ps i s).length≤1000000:=by
 unfold wrB
 rcases (writesP_wu (sizes l) kAll (ps.getD i default).body).2 s with e | e
 ·rw [e];exact Nat.zero_le _
 ·rw [e,sizes,List.getD,List.getElem?_map]
  cases hx:l[s]? with
  | none=>exact Nat.zero_le _
  | some x=>have:=(h.sz x (List.mem_of_getElem? hx)).2;show x.size≤1000000;omega
theorem wrB_at (l:List Sg) (ps:List Pr) (i:Nat) {s:Nat} (hs:s<l.length):(writesP (sizes l) kAll (ps.getD i default).body)[s]? = some (wrB l ps i s):=by
 unfold wrB
 exact us_at (n:=l.length) (by rw [writesP_len];simp [sizes]) hs
theorem rdB_at (l:List Sg) (ps:List Pr) (i:Nat) {s:Nat} (hs:s<l.length):(readsP (sizes l) (ps.getD i default).body)[s]? = some (rdB l ps i s):=by
 unfold rdB
 exact us_at (n:=l.length) (by rw [readsP_len];simp [sizes]) hs
set_option maxRecDepth 100000 in
set_option maxHeartbeats 8000000 in
theorem drives_any {base ab:Nat} {w:World} {x:AX} {l:List Sg} {ps:List Pr} {il:List Int} {sts:List (Nat × List Bool)} {ro:Value} {p1 p2 p3 e:Int} (hb:Blk w ab 103 ((x.h l.length il.length ps.length sts.length ro).cells p1 p2 p3 e)) (hD:DD base w x l ps il sts) (hU:UD (λ b=>b≠ab) w x l ps) (hbase:base≤ab) :
  Calls Try.prog 25 #[.pointer (some ⟨ab,0,none⟩)] w (FailR ab (x.h l.length il.length ps.length sts.length ro) w e [] (drivesC l ps il)):=by
 obtain ⟨sp,sc,lp,ln,lc,ip,ic,op,on,oc,pp,cp,qp,qn,qc,tp,tc,dp,dc,wp,wcc⟩:=x
 obtain ⟨np,hnp⟩:∃ n,ps.length=n:=⟨_,rfl⟩
 obtain ⟨N,hN⟩:∃ n,l.length=n:=⟨_,rfl⟩
 obtain ⟨ni,hni⟩:∃ n,il.length=n:=⟨_,rfl⟩
 have HD:=Lib.hid (And.intro hD (And.intro hnp (And.intro (show np≤1000 by rw [←hnp];exact hD.np) (And.intro hbase (And.intro hU (And.intro hN (And.intro (show N≤1000 by rw [←hN];exact hD.sg.le) hni)))))))
 obtain ⟨h,hh⟩:∃ h,AX.h ⟨sp,sc,lp,ln,lc,ip,ic,op,on,oc,pp,cp,qp,qn,qc,tp,tc,dp,dc,wp,wcc⟩ l.length il.length ps.length sts.length ro=h:=⟨_,rfl⟩
 have HH:Hid (h.pr = .slice pp np cp∧h.sg = .slice sp N sc∧h.inp = .slice ip ni ic∧h.wr = .slice wp np wcc∧h.rd = .slice dp np dc):=Lib.hid (by rw [←hh,←hnp,←hN,←hni];exact ⟨rfl,rfl,rfl,rfl,rfl⟩)
 rw [hh] at hb ⊢
 unfold drivesC
 rw [hnp,hN]
 obtain ⟨g,hg⟩:∃ g:Nat→Prop,(λ i=>Till (λ s=>drvS l ps il i s) N)=g:=⟨_,rfl⟩
 rw [hg]
 have HG:=Lib.hid hg
 have HC:Hid (Ck ab h w e [] (Till g 0) w):=Lib.hid ((Ck.start hb).iff (Till.zero g).symm)
 clear hb hD hU hnp hbase hh hg hN hni
 have a4:=HC.out.cell (i:=4) (v := .slice pp np cp) (λ _ _ _ _=>congrArg some HH.out.1)
 go_enter Try.func25,Try.ntmps25
 go_wp2_with fail
 go_loopw [15] (λ iv wr=>∃ i:Nat,iv = .int .i64 i∧i≤np∧Ck ab h w e [] (Till g i) wr) (λ iv _=>np-(intOf iv).toNat)
 case atStart=>exact ⟨0,rfl,Nat.zero_le _,HC.out⟩
 case round =>
  obtain ⟨i,rfl,hin,hCr⟩:=hrel
  clear a4
  by_cases hlt:i<np
  ·have hii:(i:Int)<(np:Int):=by omega
   have hi0:(0:Int)≤(i:Int):=by omega
   have hiw:IntKind.i64.wrap ((i:Int)+1)=((i+1:Nat):Int):=by rw [i64_of (by have:=HD.out.2.2.1;omega)];rfl
   obtain ⟨q,hq⟩:∃ q,ps[i]? = some q:=⟨_,List.getElem?_eq_getElem (by rw [HD.out.2.1];exact hlt)⟩
   have hDr:=HD.out.1.low (hCr.low HD.out.2.2.2.1)
   obtain ⟨b,o,pb,cb,bc,hpp,hrg,_,_⟩:=hDr.at hq
   dsimp only at hpp
   subst hpp
   have hgd:ps.getD i default=q:=by rw [List.getD,hq];rfl
   obtain ⟨kd,y1,y2,y3,body⟩:=q
   dsimp only at hrg
   obtain ⟨bn,hbn⟩:∃ n,body.len=n:=⟨_,rfl⟩
   rw [hbn] at hrg
   have c0:=hrg 0 _ rfl
   have c1:=hrg 1 _ rfl
   have c2:=hrg 2 _ rfl
   have c3:=hrg 3 _ rfl
   have c4:=hrg 4 _ rfl
   rw [Nat.add_zero] at c0
   have hCl:=hCr.lay 49 [.int .i64 kd,.int .i64 y1,.int .i64 y2,.int .i64 y3,.slice pb bn cb]
   change Ck _ _ _ _ _ _ (wr.alloc (.cells #[.int .i64 kd,.int .i64 y1,.int .i64 y2,.int .i64 y3,.slice pb bn cb] 49)) at hCl
   have hUl:=hCl.ud HD.out.2.2.2.2.1
   have hDl:=HD.out.1.low (hCl.low HD.out.2.2.2.1)
   obtain ⟨bw,ow,pw,mw,hwp,hwn,hcw,husw⟩:=hUl.atW hq
   dsimp only at hwp
   subst hwp
   have a9:=hCl.cell (i:=9) (v := .slice (some ⟨bw,ow,none⟩) np wcc) (λ _ _ _ _=>congrArg some HH.out.2.2.2.1)
   rw [HD.out.2.2.2.2.2.1] at hcw husw
   rw [show body=(ps.getD i default).body by rw [hgd]] at husw
   have hkd:(ps.getD i default).kind=kd:=by rw [hgd]
   have HL:=Lib.hid (And.intro hCl (And.intro husw (And.intro hUl (And.intro hDl (And.intro hkd (And.intro hlt hq))))))
   clear hCr hDr hgd hq hrg hbn hlt hin hCl hUl hDl husw hkd hwn
   go_upto_region 3 with fail
   obtain ⟨xp,hxp⟩:∃ b,wr.heap.size=b:=⟨_,rfl⟩
   rw [hxp] at HL ⊢
   generalize wr.alloc (.cells #[.int .i64 kd,.int .i64 y1,.int .i64 y2,.int .i64 y3,.slice pb bn cb] 49)=w5 at *
   clear hxp c0 c1 c2 c3 c4
   obtain ⟨e5,hst5,hbk5⟩:=HL.out.1.next
   have HBk:Hid (∀ {ls':Bx} {C1:Prop} {W1:World},Ck ab h w5 e5 ls' C1 W1→Ck ab h w e _ (Till g i∧C1) W1):=Lib.hid hbk5
   have HS5:=Lib.hid hst5
   clear hst5 hbk5
   have HXp:=Lib.hid (And.intro (HL.out.1.at 0 rfl) (HL.out.1.ne List.mem_cons_self))
   obtain ⟨gs,hgs⟩:∃ gs:Nat→Prop,(λ s=>drvS l ps il i s)=gs:=⟨_,rfl⟩
   have HGs:=Lib.hid hgs
   clear hgs
   go_wp2_with fail
   go_loopw [28] (λ sv wr=>∃ s:Nat,sv = .int .i64 s∧s≤N∧Ck ab h w5 e5 [] (Till gs s) wr) (λ sv _=>N-(intOf sv).toNat)
   case atStart=>exact ⟨0,rfl,Nat.zero_le _,HS5.out.iff (Till.zero gs).symm⟩
   case round =>
    obtain ⟨s,rfl,hsn,hCs⟩:=hrel
    clear a9 hcw
    by_cases hlt:s<N
    ·have hss:(s:Int)<(N:Int):=by omega
     have hs0:(0:Int)≤(s:Int):=by omega
     have hsw:IntKind.i64.wrap ((s:Int)+1)=((s+1:Nat):Int):=by rw [i64_of (by have:=HD.out.2.2.2.2.2.2.1;omega)];rfl
     obtain ⟨bg,og,pr,cr,hpw,hgn,hcr,hrow,hnil⟩:=HL.out.2.1.get (wrB_at l ps i (show s<l.length by rw [HD.out.2.2.2.2.2.1];exact hlt))
     subst hpw
     obtain ⟨rn,hrn⟩:∃ n,(wrB l ps i s).length=n:=⟨_,rfl⟩
     rw [hrn] at hcr hrow
     have hcr2:=hCs.cell0 hcr hgn
     have HRw:=Lib.hid (And.intro hrow (And.intro hrn (And.intro (show rn≤1000000 by rw [←hrn];exact wrB_len HD.out.1.sg ps i s) hlt)))
     obtain ⟨z,hz⟩:∃ z,(wrB l ps i s).isEmpty=z:=⟨_,rfl⟩
     rw [hz] at hnil
     have HZ:=Lib.hid hz
     have HCs:=Lib.hid hCs
     clear hrow hrn hlt hsn hz hCs hcr hgn
     have qE:=eq_nilB
     have qN:=ne_nilB
     cases z
     case true =>
      go_wp2_with fail
      go_roundw
      case measure=>simp [intOf];have:=HRw.out.2.2.2;omega
      case rel =>
       refine ⟨s+1,by go_num,HRw.out.2.2.2,HCs.out.iff ?_⟩
       have hs:gs s:=by
        rw [←HGs.out]
        intro e0
        rw [HZ.out] at e0
        cases e0
       rw [Till.succ]
       exact ⟨λ h=>⟨h,hs⟩,λ h=>h.1⟩
     case false =>
      have xp0:=(HCs.out.blk0 HXp.out.1 HXp.out.2).cell (i:=0) rfl
      have xp1:=(HCs.out.blk0 HXp.out.1 HXp.out.2).cell (i:=1) rfl
      have xp2:=(HCs.out.blk0 HXp.out.1 HXp.out.2).cell (i:=2) rfl
      have xp3:=(HCs.out.blk0 HXp.out.1 HXp.out.2).cell (i:=3) rfl
      have a2:=HCs.out.cell (i:=2) (v := .slice ip ni ic) (λ _ _ _ _=>congrArg some HH.out.2.2.1)
      have hinp:RO wr (.slice ip ni ic) 1 ni (ints il):=by have:=(HL.out.2.2.2.1.low (HCs.out.low HD.out.2.2.2.1)).ip.ro;rw [HD.out.2.2.2.2.2.2.2] at this;exact this
      obtain ⟨qi,hqi⟩:∃ q,il.contains (s:Int)=q:=⟨_,rfl⟩
      have hI:=hasI_any (w:=wr.drew) (il:=il) (p:=ip) (n:=ni) (c:=ic) hinp (by have:=HD.out.1.nl;have:=HD.out.2.2.2.2.2.2.2;omega) (s:Int)
      rw [hqi] at hI
      have HI:=Lib.hid hI
      have HQi:=Lib.hid hqi
      clear hinp hI hqi
      have HCd:=Lib.hid HCs.out.drew
      go_upto_region 7 with fail
      refine wp_region_still_tail 10 (by kernel_rfl) (by kernel_rfl) ?_
      simp only [List.take_succ_cons,List.take_zero,List.drop_succ_cons,List.drop_zero]
      change wpStill _ _ wr.drew (λ a'=>wpList _ _ _ _ a' wr.drew) _ _
      replace xp0:wr.drew.cell? _=_:=xp0
      replace xp1:wr.drew.cell? _=_:=xp1
      replace xp2:wr.drew.cell? _=_:=xp2
      replace xp3:wr.drew.cell? _=_:=xp3
      replace a2:wr.drew.cell? _=_:=a2
      replace hcr2:wr.drew.cell? _=_:=hcr2
      generalize wr.drew=w6 at *
      refine WS.out ?_
      iterate 7 (refine ws_step (λ K hK => ?_);go_simp;refine hK _ ?_;clear hK K)
      refine ws_step (λ K hK => ?_)
      go_simp
      refine ⟨_,HI.out,hK _ ?_⟩
      clear hK K
      iterate 2 (refine ws_step (λ K hK => ?_);go_simp;refine hK _ ?_;clear hK K)
      refine ws_nil ?_
      clear xp0 xp1 xp2 xp3 a2 hcr2
      go_wp2_with fail
      refine (fail_any HCd.out qi y1 y2 y3 14 (by decide)).mono ?_;rintro en w7 ⟨rfl,h7⟩
      obtain ⟨C1,hC1⟩:∃ C1:Prop,(Till gs s∧qi=false)=C1:=⟨_,rfl⟩
      rw [hC1] at h7
      have HC1:=Lib.hid hC1
      have H7:=Lib.hid h7
      clear h7 hC1
      obtain ⟨gk,hgk⟩:∃ gk:Nat→Prop,(λ k=>drvK l ps i s k=false)=gk:=⟨_,rfl⟩
      have HGk:=Lib.hid hgk
      clear hgk
      go_wp2_with fail
      go_loopw [47] (λ kv wr=>∃ k:Nat,kv = .int .i64 k∧k≤i∧Ck ab h w5 e5 [] (C1∧Till gk k) wr) (λ kv _=>i-(intOf kv).toNat)
      case atStart=>exact ⟨0,rfl,Nat.zero_le _,H7.out.iff (by rw [Till.zero];simp)⟩
      case round =>
       obtain ⟨k,rfl,hkn,hCk⟩:=hrel
       by_cases hlt:k<i
       ·have hki:(k:Int)<(i:Int):=by omega
        have hk0:(0:Int)≤(k:Int):=by omega
        have hkp:(k:Int)<(np:Int):=by omega
        have hkw:IntKind.i64.wrap ((k:Int)+1)=((k+1:Nat):Int):=by rw [i64_of (by have:=HD.out.2.2.1;have:=HL.out.2.2.2.2.2.1;omega)];rfl
        obtain ⟨q,hq⟩:∃ q,ps[k]? = some q:=⟨_,List.getElem?_eq_getElem (by rw [HD.out.2.1];have:=HL.out.2.2.2.2.2.1;omega)⟩
        have hgd:ps.getD k default=q:=by rw [List.getD,hq];rfl
        have hDk:=HL.out.2.2.2.1.low (hCk.low HD.out.2.2.2.1)
        obtain ⟨b2,o2,pb2,cb2,bc2,hpp,hrg,_,_⟩:=hDk.at hq
        dsimp only at hpp
        cases hpp
        obtain ⟨bw2,ow2,pk,mk,hwp2,hwn2,hck,husk⟩:=(hCk.ud HL.out.2.2.1).atW hq
        dsimp only at hwp2
        cases hwp2
        rw [HD.out.2.2.2.2.2.1] at hck husk
        rw [←hgd] at husk
        obtain ⟨bh,oh,ph,chh,hpk,_,hch,hrowh,hnilh⟩:=husk.get (wrB_at l ps k (show s<l.length by rw [HD.out.2.2.2.2.2.1];exact HRw.out.2.2.2))
        subst hpk
        obtain ⟨kn,hkn2⟩:∃ n,(wrB l ps k s).length=n:=⟨_,rfl⟩
        rw [hkn2] at hch hrowh
        have hkk:q.kind=(ps.getD k default).kind:=by rw [hgd]
        obtain ⟨kk,z1,z2,z3,bodyk⟩:=q
        dsimp only at hrg hkk
        have k0:=hrg 0 _ rfl
        rw [Nat.add_zero] at k0
        have xp0:=(hCk.blk0 HXp.out.1 HXp.out.2).cell (i:=0) rfl
        have xp1:=(hCk.blk0 HXp.out.1 HXp.out.2).cell (i:=1) rfl
        have xp2:=(hCk.blk0 HXp.out.1 HXp.out.2).cell (i:=2) rfl
        have xp3:=(hCk.blk0 HXp.out.1 HXp.out.2).cell (i:=3) rfl
        have a4:=hCk.cell (i:=4) (v := .slice (some ⟨b,o,none⟩) np cp) (λ _ _ _ _=>congrArg some HH.out.1)
        have a9:=hCk.cell (i:=9) (v := .slice (some ⟨bw,ow,none⟩) np wcc) (λ _ _ _ _=>congrArg some HH.out.2.2.2.1)
        have hm:=pmeet_any (w:=wr.drew) (l1:=wrB l ps i s) (l2:=wrB l ps k s) (hCk.roa (λ _ h=>h) HRw.out.1).ro hrowh.ro HRw.out.2.2.1 (by rw [←hkn2];exact wrB_len HD.out.1.sg ps k s)
        obtain ⟨m,hmm⟩:∃ m,meetP (wrB l ps i s) (wrB l ps k s)=m:=⟨_,rfl⟩
        rw [hmm] at hm
        obtain ⟨z2,hz2⟩:∃ z,(wrB l ps k s).isEmpty=z:=⟨_,rfl⟩
        rw [hz2] at hnilh
        obtain ⟨b1,hb1⟩:∃ c,((kd:Int) == 1)=c:=⟨_,rfl⟩
        obtain ⟨bk,hbk⟩:∃ c,((kk:Int) == 1)=c:=⟨_,rfl⟩
        have hgk:gk k↔(!z2 && (!(b1 && bk) || m))=false:=by
         rw [←HGk.out]
         show drvK l ps i s k=false↔_
         unfold drvK
         rw [hz2,hmm,HL.out.2.2.2.2.1,←hkk,show decide (kd=1)=b1 by rw [←hb1,Bool.eq_iff_iff];simp;omega,show decide (kk=1)=bk by rw [←hbk,Bool.eq_iff_iff];simp;omega]
        have HM:=Lib.hid (And.intro hm (And.intro hgk hlt))
        have HCk:=Lib.hid hCk.drew
        clear hm hmm hz2 hgk hkk hrg hDk hgd hq hlt hkn hCk husk hrowh hkn2 hwn2
        cases z2
        case true =>
         cases b1
         case true =>
          cases bk
          case true =>
           go_upto_region 13 with fail
           refine wp_region_still_tail 14 (by kernel_rfl) (by kernel_rfl) ?_
           simp only [List.take_succ_cons,List.take_zero,List.drop_succ_cons,List.drop_zero]
           change wpStill _ _ wr.drew (λ a'=>wpList _ _ _ _ a' wr.drew) _ _
           replace k0:wr.drew.cell? _=_:=k0
           replace xp0:wr.drew.cell? _=_:=xp0
           replace xp1:wr.drew.cell? _=_:=xp1
           replace xp2:wr.drew.cell? _=_:=xp2
           replace xp3:wr.drew.cell? _=_:=xp3
           replace a4:wr.drew.cell? _=_:=a4
           replace a9:wr.drew.cell? _=_:=a9
           replace hck:wr.drew.cell? _=_:=hck
           replace hch:wr.drew.cell? _=_:=hch
           generalize wr.drew=w8 at *
           refine WS.out ?_
           iterate 14 (refine ws_step (λ K hK => ?_);go_simp;refine hK _ ?_;clear hK K)
           refine ws_nil ?_
           clear k0 xp0 xp1 xp2 xp3 a4 a9 hck hch
           go_wp2_with fail
           refine (fail_any HCk.out false y1 y2 y3 14 (by decide)).mono ?_;rintro en w9 ⟨rfl,h9⟩
           have H9:=Lib.hid (h9.iff (C':=C1∧Till gk (k+1)) (by rw [Till.succ,HM.out.2.1];simp []))
           clear h9
           go_wp2_with fail
           go_roundw
           case measure=>simp [intOf];have:=HM.out.2.2;omega
           case rel=>exact ⟨k+1,by go_num,HM.out.2.2,H9.out⟩
          case false =>
           go_upto_region 13 with fail
           refine wp_region_still_tail 14 (by kernel_rfl) (by kernel_rfl) ?_
           simp only [List.take_succ_cons,List.take_zero,List.drop_succ_cons,List.drop_zero]
           change wpStill _ _ wr.drew (λ a'=>wpList _ _ _ _ a' wr.drew) _ _
           replace k0:wr.drew.cell? _=_:=k0
           replace xp0:wr.drew.cell? _=_:=xp0
           replace xp1:wr.drew.cell? _=_:=xp1
           replace xp2:wr.drew.cell? _=_:=xp2
           replace xp3:wr.drew.cell? _=_:=xp3
           replace a4:wr.drew.cell? _=_:=a4
           replace a9:wr.drew.cell? _=_:=a9
           replace hck:wr.drew.cell? _=_:=hck
           replace hch:wr.drew.cell? _=_:=hch
           generalize wr.drew=w8 at *
           refine WS.out ?_
           iterate 14 (refine ws_step (λ K hK => ?_);go_simp;refine hK _ ?_;clear hK K)
           refine ws_nil ?_
           clear k0 xp0 xp1 xp2 xp3 a4 a9 hck hch
           go_wp2_with fail
           refine (fail_any HCk.out false y1 y2 y3 14 (by decide)).mono ?_;rintro en w9 ⟨rfl,h9⟩
           have H9:=Lib.hid (h9.iff (C':=C1∧Till gk (k+1)) (by rw [Till.succ,HM.out.2.1];simp []))
           clear h9
           go_wp2_with fail
           go_roundw
           case measure=>simp [intOf];have:=HM.out.2.2;omega
           case rel=>exact ⟨k+1,by go_num,HM.out.2.2,H9.out⟩
         case false =>
          clear hbk
          go_upto_region 13 with fail
          refine wp_region_still_tail 14 (by kernel_rfl) (by kernel_rfl) ?_
          simp only [List.take_succ_cons,List.take_zero,List.drop_succ_cons,List.drop_zero]
          change wpStill _ _ wr.drew (λ a'=>wpList _ _ _ _ a' wr.drew) _ _
          replace k0:wr.drew.cell? _=_:=k0
          replace xp0:wr.drew.cell? _=_:=xp0
          replace xp1:wr.drew.cell? _=_:=xp1
          replace xp2:wr.drew.cell? _=_:=xp2
          replace xp3:wr.drew.cell? _=_:=xp3
          replace a4:wr.drew.cell? _=_:=a4
          replace a9:wr.drew.cell? _=_:=a9
          replace hck:wr.drew.cell? _=_:=hck
          replace hch:wr.drew.cell? _=_:=hch
          generalize wr.drew=w8 at *
          refine WS.out ?_
          iterate 14 (refine ws_step (λ K hK => ?_);go_simp;refine hK _ ?_;clear hK K)
          refine ws_nil ?_
          clear k0 xp0 xp1 xp2 xp3 a4 a9 hck hch
          go_wp2_with fail
          refine (fail_any HCk.out false y1 y2 y3 14 (by decide)).mono ?_;rintro en w9 ⟨rfl,h9⟩
          have H9:=Lib.hid (h9.iff (C':=C1∧Till gk (k+1)) (by rw [Till.succ,HM.out.2.1];simp []))
          clear h9
          go_wp2_with fail
          go_roundw
          case measure=>simp [intOf];have:=HM.out.2.2;omega
          case rel=>exact ⟨k+1,by go_num,HM.out.2.2,H9.out⟩
        case false =>
         cases b1
         case true =>
          cases bk
          case true =>
           go_upto_region 13 with fail
           refine wp_region_still_tail 14 (by kernel_rfl) (by kernel_rfl) ?_
           simp only [List.take_succ_cons,List.take_zero,List.drop_succ_cons,List.drop_zero]
           change wpStill _ _ wr.drew (λ a'=>wpList _ _ _ _ a' wr.drew) _ _
           replace k0:wr.drew.cell? _=_:=k0
           replace xp0:wr.drew.cell? _=_:=xp0
           replace xp1:wr.drew.cell? _=_:=xp1
           replace xp2:wr.drew.cell? _=_:=xp2
           replace xp3:wr.drew.cell? _=_:=xp3
           replace a4:wr.drew.cell? _=_:=a4
           replace a9:wr.drew.cell? _=_:=a9
           replace hck:wr.drew.cell? _=_:=hck
           replace hch:wr.drew.cell? _=_:=hch
           generalize wr.drew=w8 at *
           refine WS.out ?_
           iterate 9 (refine ws_step (λ K hK => ?_);go_simp;refine hK _ ?_;clear hK K)
           refine ws_step (λ K hK => ?_)
           go_simp
           refine ⟨_,HM.out.1,hK _ ?_⟩
           clear hK K
           iterate 4 (refine ws_step (λ K hK => ?_);go_simp;refine hK _ ?_;clear hK K)
           refine ws_nil ?_
           clear k0 xp0 xp1 xp2 xp3 a4 a9 hck hch
           go_wp2_with fail
           refine (fail_any HCk.out m y1 y2 y3 14 (by decide)).mono ?_;rintro en w9 ⟨rfl,h9⟩
           have H9:=Lib.hid (h9.iff (C':=C1∧Till gk (k+1)) (by rw [Till.succ,HM.out.2.1];simp [and_assoc]))
           clear h9
           go_wp2_with fail
           go_roundw
           case measure=>simp [intOf];have:=HM.out.2.2;omega
           case rel=>exact ⟨k+1,by go_num,HM.out.2.2,H9.out⟩
          case false =>
           go_upto_region 13 with fail
           refine wp_region_still_tail 14 (by kernel_rfl) (by kernel_rfl) ?_
           simp only [List.take_succ_cons,List.take_zero,List.drop_succ_cons,List.drop_zero]
           change wpStill _ _ wr.drew (λ a'=>wpList _ _ _ _ a' wr.drew) _ _
           replace k0:wr.drew.cell? _=_:=k0
           replace xp0:wr.drew.cell? _=_:=xp0
           replace xp1:wr.drew.cell? _=_:=xp1
           replace xp2:wr.drew.cell? _=_:=xp2
           replace xp3:wr.drew.cell? _=_:=xp3
           replace a4:wr.drew.cell? _=_:=a4
           replace a9:wr.drew.cell? _=_:=a9
           replace hck:wr.drew.cell? _=_:=hck
           replace hch:wr.drew.cell? _=_:=hch
           generalize wr.drew=w8 at *
           refine WS.out ?_
           iterate 14 (refine ws_step (λ K hK => ?_);go_simp;refine hK _ ?_;clear hK K)
           refine ws_nil ?_
           clear k0 xp0 xp1 xp2 xp3 a4 a9 hck hch
           go_wp2_with fail
           refine (fail_any HCk.out true y1 y2 y3 14 (by decide)).mono ?_;rintro en w9 ⟨rfl,h9⟩
           have H9:=Lib.hid (h9.iff (C':=C1∧Till gk (k+1)) (by rw [Till.succ,HM.out.2.1];simp []))
           clear h9
           go_wp2_with fail
           go_roundw
           case measure=>simp [intOf];have:=HM.out.2.2;omega
           case rel=>exact ⟨k+1,by go_num,HM.out.2.2,H9.out⟩
         case false =>
          clear hbk
          go_upto_region 13 with fail
          refine wp_region_still_tail 14 (by kernel_rfl) (by kernel_rfl) ?_
          simp only [List.take_succ_cons,List.take_zero,List.drop_succ_cons,List.drop_zero]
          change wpStill _ _ wr.drew (λ a'=>wpList _ _ _ _ a' wr.drew) _ _
          replace k0:wr.drew.cell? _=_:=k0
          replace xp0:wr.drew.cell? _=_:=xp0
          replace xp1:wr.drew.cell? _=_:=xp1
          replace xp2:wr.drew.cell? _=_:=xp2
          replace xp3:wr.drew.cell? _=_:=xp3
          replace a4:wr.drew.cell? _=_:=a4
          replace a9:wr.drew.cell? _=_:=a9
          replace hck:wr.drew.cell? _=_:=hck
          replace hch:wr.drew.cell? _=_:=hch
          generalize wr.drew=w8 at *
          refine WS.out ?_
          iterate 14 (refine ws_step (λ K hK => ?_);go_simp;refine hK _ ?_;clear hK K)
          refine ws_nil ?_
          clear k0 xp0 xp1 xp2 xp3 a4 a9 hck hch
          go_wp2_with fail
          refine (fail_any HCk.out true y1 y2 y3 14 (by decide)).mono ?_;rintro en w9 ⟨rfl,h9⟩
          have H9:=Lib.hid (h9.iff (C':=C1∧Till gk (k+1)) (by rw [Till.succ,HM.out.2.1];simp []))
          clear h9
          go_wp2_with fail
          go_roundw
          case measure=>simp [intOf];have:=HM.out.2.2;omega
          case rel=>exact ⟨k+1,by go_num,HM.out.2.2,H9.out⟩
       ·obtain rfl:i=k:=by omega
        have hki:¬(i:Int)<(i:Int):=by omega
        have H9:=Lib.hid (hCk.iff (C':=Till gs (s+1)) (by
         rw [Till.succ,←HC1.out,←HGs.out,←HGk.out,←HQi.out]
         show _↔_∧drvS l ps il i s
         unfold drvS
         rw [HZ.out]
         simp [and_assoc]))
        clear hCk hlt hkn
        go_wp2_with fail
        go_roundw
        case measure=>simp [intOf];have:=HRw.out.2.2.2;omega
        case rel=>exact ⟨s+1,by go_num,HRw.out.2.2.2,H9.out⟩
    ·obtain rfl:N=s:=by omega
     have hss:¬(N:Int)<(N:Int):=by omega
     have H9:=Lib.hid (((HBk.out hCs).drop 1).iff (C':=Till g (i+1)) (by rw [Till.succ,←HG.out];show _↔_∧Till (λ s=>drvS l ps il i s) N;rw [HGs.out]))
     clear hCs hlt hsn
     go_wp2_with fail
     go_roundw
     case measure=>simp [intOf];have:=HL.out.2.2.2.2.2.1;omega
     case rel=>exact ⟨i+1,by go_num,HL.out.2.2.2.2.2.1,H9.out⟩
  ·obtain rfl:np=i:=by omega
   have hii:¬(np:Int)<(np:Int):=by omega
   have HCr:=Lib.hid hCr
   clear hlt hin hCr
   go_wp2_with fail
   go_end0
   exact ⟨rfl,HCr.out⟩
end Go.Proofs.Ytlklleaocbnbcaa
