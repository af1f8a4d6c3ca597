import Derived.Test.YtlklleaocbnbcaaZ34
namespace Go.Proofs.Ytlklleaocbnbcaa
set_option linter.unusedVariables false
open Go.RowKit Go.Sort
theorem TUses:SlTy Try.prog 101 104 1 24 (.slice none 0 0):=SlTy.of Try.underlying101 (by kernel_rfl) rfl (by decide)
theorem AW.congr {w W:World} {ab:Nat} {ls:Bx} {ac:List Value} {R:Bool→Value × List Value} {F F':Bool→List Us} (h:AW w ab ls ac R F W) (hF:∀ k,F k=F' k):AW w ab ls ac R F' W:=by rw [←funext hF];exact h
theorem own_roa {w:World} {base e n:Nat} {v:Value} {cs:List Value} (ho:w.ownsRow base e 1 v n cs):ROA (λ b=>base≤b) w v 1 n cs:=by
 refine ⟨ho.1,?_⟩
 rcases ho.2 with ⟨e1,e2⟩ | ⟨g,cap,cur,hv,hb,hg,h1,h2,h3,h4⟩
 ·rw [e1,e2]
  refine ⟨_,_,rfl,Nat.le_refl _,λ j u hj => ?_⟩
  have:=ho.1
  rw [e2,Nat.zero_mul] at this
  rw [List.eq_nil_of_length_eq_zero this] at hj;simp at hj
 ·refine ⟨_,_,hv,h1,λ j u hj=>⟨g,0,rfl,hb,?_⟩⟩
  have:=ho.cells (g:=g) (by rw [hv];rfl) j u hj
  have hadd:(⟨g,0,none⟩:Addr).add j=⟨g,0+j,none⟩:=by unfold Addr.add;split <;> simp_all
  rwa [hadd] at this
theorem ROA.reA {A A':Nat→Prop} {w w':World} {b o m c size n:Nat} {cs:List Value} (h:ROA A w (.slice (some ⟨b,o,none⟩) m c) size n cs) (hA:A' b) (hs:w'.heap[b]? = w.heap[b]?):ROA A' w' (.slice (some ⟨b,o,none⟩) m c) size n cs:=by
 obtain ⟨h1,p,c',e,h4,h3⟩:=h
 refine ⟨h1,p,c',e,h4,λ j u hj => ?_⟩
 obtain ⟨b',o',e',_,hc⟩:=h3 j u hj
 cases e
 cases e'
 exact ⟨b,o,rfl,hA,(World.cell?_of_block hs).trans hc⟩
def AllC (l:List Sg) (ps:List Pr) (il:List Int) (sts:List (Nat × List Bool)):Prop :=
 kindsC l ps∧drivesC l ps il∧racesC l ps (rolesP l ps il)∧undC l ps (rolesP l ps il)∧latchesC l ps∧loopC l ps∧startsC l (rolesP l ps il) sts
def AnaR (l:List Sg) (ps:List Pr) (il:List Int) (sts:List (Nat × List Bool)) (w:World) (en:Ending) (w':World):Prop :=
 ∃ (e q1 q2 q3:Int) (rv ov:Value),en = .returned (.tuple #[.agg #[rv,ov],.agg #[.int .i64 q1,.int .i64 q2,.int .i64 q3],.int .i64 e])∧Below w.heap.size w w'∧(e=0↔AllC l ps il sts)∧(e≠0→rv = .slice none 0 0∧ov = .slice none 0 0) ∧
  (e=0→∃ (out:List Nat) (dn:List Bool),ROA (λ b=>w.heap.size≤b) w' rv 1 l.length (ints (rolesP l ps il))∧ROA (λ b=>w.heap.size≤b) w' ov 1 out.length (natInts out)∧OrdI l ps dn out∧∀ i,i<ps.length→frK l ps dn i ps.length=false)
structure AZ (base ab bi bp:Nat) (x:AX) (ro:Value) (l:List Sg) (ps:List Pr) (il:List Int) (sts:List (Nat × List Bool)) (w:World) (C:Prop) (p1 p2 p3 e:Int) (W:World):Prop where
 an:AN base ab x ro l ps il sts p1 p2 p3 e W
 ec:e=0↔C
 bI:Blk W bi 41 [.slice none 0 0,.slice none 0 0]
 bP:Blk W bp 43 [.int .i64 0,.int .i64 0,.int .i64 0]
 bel:Below w.heap.size w W
 ge:w.heap.size≤ab∧w.heap.size≤bi∧w.heap.size≤bp
 ne:bi≠ab∧bp≠ab
theorem AZ.step {base ab bi bp:Nat} {x:AX} {ro:Value} {l:List Sg} {ps:List Pr} {il:List Int} {sts:List (Nat × List Bool)} {w:World} {C C1:Prop} {p1 p2 p3 e:Int} {W W':World} (h:AZ base ab bi bp x ro l ps il sts w C p1 p2 p3 e W) (hc:Ck ab (x.h l.length il.length ps.length sts.length ro) W e [] C1 W') :
  ∃ q1 q2 q3 e',AZ base ab bi bp x ro l ps il sts w (C∧C1) q1 q2 q3 e' W':=by
 obtain ⟨q1,q2,q3,e',h1,h2⟩:=hc.an
 refine ⟨q1,q2,q3,e',⟨h1,h.an.dd.low (hc.low h.an.hb),hc.ud h.an.ud,h.an.hb⟩,by rw [h2,h.ec],hc.blk0 h.bI h.ne.1,hc.blk0 h.bP h.ne.2,h.bel.trans (hc.up.lowF (λ b e=>by have e':b=ab:=e;have:=h.ge.1;omega) h.bel.size),h.ge,h.ne⟩
theorem blkRoa {w:World} {ab b t n:Nat} {l:List Value} (h:Blk w b t l) (hl:l.length=n) (hb:b≠ab):ROA (λ k=>k≠ab) w (.slice (some ⟨b,0,none⟩) n n) 1 n l:=by
 subst hl
 exact ⟨by simp,_,_,rfl,Nat.le_refl _,λ j u hj=>⟨b,0,rfl,hb,by rw [Nat.zero_add];exact h.cell hj⟩⟩
set_option maxRecDepth 100000 in
set_option maxHeartbeats 16000000 in
theorem analyze_any {base:Nat} {w:World} {x:AX} {l:List Sg} {ps:List Pr} {il:List Int} {sts:List (Nat × List Bool)} (hD:DD base w x l ps il sts) (hbase:base≤w.heap.size) (hw1:∀ y∈l,y.size≤y.w∧y.w≤1000) (hin:∀ v∈il,0≤v∧v<(l.length:Int)) (hst:∀ s∈sts,s.1<l.length∧s.2.length≤1000) :
  Calls Try.prog 8 #[.agg #[.slice x.sp l.length x.sc,.slice x.lp x.ln x.lc,.slice x.ip il.length x.ic,.slice x.op x.on x.oc,.slice x.pp ps.length x.cp,.slice x.qp x.qn x.qc,.slice x.tp sts.length x.tc]] w (AnaR l ps il sts w):=by
 obtain ⟨sp,sc,lp,ln,lc,ip,ic,op,on,oc,pp,cp,qp,qn,qc,tp,tc,dp,dc,wp,wcc⟩:=x
 dsimp only
 obtain ⟨np,hnp⟩:∃ n,ps.length=n:=⟨_,rfl⟩
 obtain ⟨N,hN⟩:∃ n,l.length=n:=⟨_,rfl⟩
 obtain ⟨ni,hni⟩:∃ n,il.length=n:=⟨_,rfl⟩
 obtain ⟨nt,hnt⟩:∃ n,sts.length=n:=⟨_,rfl⟩
 have HD:=Lib.hid (And.intro hD (And.intro hbase (And.intro hw1 (And.intro hin (And.intro hst (And.intro hnp (And.intro hN (And.intro (show np≤1000 by rw [←hnp];exact hD.np) (And.intro hni hnt)))))))))
 rw [hN,hni,hnp,hnt]
 have n1:=Below.new w (.cells #[.slice sp N sc,.slice lp ln lc,.slice ip ni ic,.slice op on oc,.slice pp np cp,.slice qp qn qc,.slice tp nt tc] 38)
 have n2:=Below.new (w.alloc (.cells #[.slice sp N sc,.slice lp ln lc,.slice ip ni ic,.slice op on oc,.slice pp np cp,.slice qp qn qc,.slice tp nt tc] 38)) (.cells #[.slice none 0 0,.slice none 0 0] 41)
 have n3:=Below.new ((w.alloc (.cells #[.slice sp N sc,.slice lp ln lc,.slice ip ni ic,.slice op on oc,.slice pp np cp,.slice qp qn qc,.slice tp nt tc] 38)).alloc (.cells #[.slice none 0 0,.slice none 0 0] 41)) (.cells #[.int .i64 0,.int .i64 0,.int .i64 0] 43)
 have n4:=Below.new (((w.alloc (.cells #[.slice sp N sc,.slice lp ln lc,.slice ip ni ic,.slice op on oc,.slice pp np cp,.slice qp qn qc,.slice tp nt tc] 38)).alloc (.cells #[.slice none 0 0,.slice none 0 0] 41)).alloc (.cells #[.int .i64 0,.int .i64 0,.int .i64 0] 43)) (.cells #[.slice sp N sc,.slice lp ln lc,.slice ip ni ic,.slice op on oc,.slice pp np cp,.slice qp qn qc,.slice tp nt tc,.slice none 0 0,.slice none 0 0,.slice none 0 0,.int .i64 0,.int .i64 0,.int .i64 0,.int .i64 0] 103)
 have b0:=((Blk.new (w:=w) 38 [.slice sp N sc,.slice lp ln lc,.slice ip ni ic,.slice op on oc,.slice pp np cp,.slice qp qn qc,.slice tp nt tc]).next n2).next n3 |>.next n4
 have b1:=((Blk.new (w:=w.alloc (.cells #[.slice sp N sc,.slice lp ln lc,.slice ip ni ic,.slice op on oc,.slice pp np cp,.slice qp qn qc,.slice tp nt tc] 38)) 41 [.slice none 0 0,.slice none 0 0]).next n3).next n4
 have b2:=(Blk.new (w:=(w.alloc (.cells #[.slice sp N sc,.slice lp ln lc,.slice ip ni ic,.slice op on oc,.slice pp np cp,.slice qp qn qc,.slice tp nt tc] 38)).alloc (.cells #[.slice none 0 0,.slice none 0 0] 41)) 43 [.int .i64 0,.int .i64 0,.int .i64 0]).next n4
 have b3:=Blk.new (w:=((w.alloc (.cells #[.slice sp N sc,.slice lp ln lc,.slice ip ni ic,.slice op on oc,.slice pp np cp,.slice qp qn qc,.slice tp nt tc] 38)).alloc (.cells #[.slice none 0 0,.slice none 0 0] 41)).alloc (.cells #[.int .i64 0,.int .i64 0,.int .i64 0] 43)) 103 [.slice sp N sc,.slice lp ln lc,.slice ip ni ic,.slice op on oc,.slice pp np cp,.slice qp qn qc,.slice tp nt tc,.slice none 0 0,.slice none 0 0,.slice none 0 0,.int .i64 0,.int .i64 0,.int .i64 0,.int .i64 0]
 simp only [World.size_alloc] at b1 b2 b3
 have hbl:Below w.heap.size w ((((w.alloc (.cells #[.slice sp N sc,.slice lp ln lc,.slice ip ni ic,.slice op on oc,.slice pp np cp,.slice qp qn qc,.slice tp nt tc] 38)).alloc (.cells #[.slice none 0 0,.slice none 0 0] 41)).alloc (.cells #[.int .i64 0,.int .i64 0,.int .i64 0] 43)).alloc (.cells #[.slice sp N sc,.slice lp ln lc,.slice ip ni ic,.slice op on oc,.slice pp np cp,.slice qp qn qc,.slice tp nt tc,.slice none 0 0,.slice none 0 0,.slice none 0 0,.int .i64 0,.int .i64 0,.int .i64 0,.int .i64 0] 103)):=Below.next (Below.next (Below.next n1 n2) n3) n4
 have hAW:AW w (w.heap.size+1+1+1) [(w.heap.size+1+1,43, [.int .i64 0,.int .i64 0,.int .i64 0]),(w.heap.size+1,41, [.slice none 0 0,.slice none 0 0]),(w.heap.size,38, [.slice sp N sc,.slice lp ln lc,.slice ip ni ic,.slice op on oc,.slice pp np cp,.slice qp qn qc,.slice tp nt tc])] [.slice sp N sc,.slice lp ln lc,.slice ip ni ic,.slice op on oc,.slice pp np cp,.slice qp qn qc,.slice tp nt tc,.slice none 0 0,.slice none 0 0,.slice none 0 0,.int .i64 0,.int .i64 0,.int .i64 0,.int .i64 0] (λ _=>(.slice none 0 0, [])) (λ _ => []) ((((w.alloc (.cells #[.slice sp N sc,.slice lp ln lc,.slice ip ni ic,.slice op on oc,.slice pp np cp,.slice qp qn qc,.slice tp nt tc] 38)).alloc (.cells #[.slice none 0 0,.slice none 0 0] 41)).alloc (.cells #[.int .i64 0,.int .i64 0,.int .i64 0] 43)).alloc (.cells #[.slice sp N sc,.slice lp ln lc,.slice ip ni ic,.slice op on oc,.slice pp np cp,.slice qp qn qc,.slice tp nt tc,.slice none 0 0,.slice none 0 0,.slice none 0 0,.int .i64 0,.int .i64 0,.int .i64 0,.int .i64 0] 103)):=by
  refine ⟨⟨λ k=>World.ownsRow_nil _ _ _ _,λ k k2 _ g hg=>(by cases hg),λ k hk=>(by cases hk),by omega,b3.lt⟩,b3,hbl,λ y hy => ?_,λ k=>⟨rfl,λ i u hi=>by simp at hi⟩⟩
  simp only [List.mem_cons,List.not_mem_nil,or_false] at hy
  rcases hy with rfl | rfl | rfl
  ·exact ⟨b2,by show w.heap.size≤w.heap.size+1+1;omega,by show w.heap.size+1+1≠w.heap.size+1+1+1;omega,λ k e=>by cases e⟩
  ·exact ⟨b1,by show w.heap.size≤w.heap.size+1;omega,by show w.heap.size+1≠w.heap.size+1+1+1;omega,λ k e=>by cases e⟩
  ·exact ⟨b0,Nat.le_refl _,by show w.heap.size≠w.heap.size+1+1+1;omega,λ k e=>by cases e⟩
 have H4:=Lib.hid hAW
 clear hAW hbl n1 n2 n3 n4 b0 b1 b2 b3 hD hbase hw1 hin hst hnp hN hni hnt
 go_enter Try.func8,Try.ntmps8
 go_upto_region 2 with fail
 change Hid (AW _ _ _ _ _ _ ((((w.alloc (.cells #[.slice sp N sc,.slice lp ln lc,.slice ip ni ic,.slice op on oc,.slice pp np cp,.slice qp qn qc,.slice tp nt tc] 38)).alloc (.cells #[.slice none 0 0,.slice none 0 0] 41)).alloc (.cells #[.int .i64 0,.int .i64 0,.int .i64 0] 43)).alloc (.cells #[.slice sp N sc,.slice lp ln lc,.slice ip ni ic,.slice op on oc,.slice pp np cp,.slice qp qn qc,.slice tp nt tc,.slice none 0 0,.slice none 0 0,.slice none 0 0,.int .i64 0,.int .i64 0,.int .i64 0,.int .i64 0] 103))) at H4
 generalize (((w.alloc (.cells #[.slice sp N sc,.slice lp ln lc,.slice ip ni ic,.slice op on oc,.slice pp np cp,.slice qp qn qc,.slice tp nt tc] 38)).alloc (.cells #[.slice none 0 0,.slice none 0 0] 41)).alloc (.cells #[.int .i64 0,.int .i64 0,.int .i64 0] 43)).alloc (.cells #[.slice sp N sc,.slice lp ln lc,.slice ip ni ic,.slice op on oc,.slice pp np cp,.slice qp qn qc,.slice tp nt tc,.slice none 0 0,.slice none 0 0,.slice none 0 0,.int .i64 0,.int .i64 0,.int .i64 0,.int .i64 0] 103)=w4 at *
 have d4:=(H4.out.at 2 rfl).cell (i:=4) rfl
 go_wp2_with fail
 go_loopw [15] (λ iv wr=>∃ (i:Nat) (R:Bool→Value × List Value),iv = .int .i64 i∧i≤np∧AW w (w.heap.size+1+1+1) [(w.heap.size+1+1,43, [.int .i64 0,.int .i64 0,.int .i64 0]),(w.heap.size+1,41, [.slice none 0 0,.slice none 0 0]),(w.heap.size,38, [.slice sp N sc,.slice lp ln lc,.slice ip ni ic,.slice op on oc,.slice pp np cp,.slice qp qn qc,.slice tp nt tc])] [.slice sp N sc,.slice lp ln lc,.slice ip ni ic,.slice op on oc,.slice pp np cp,.slice qp qn qc,.slice tp nt tc,.slice none 0 0,(R true).1,(R false).1,.int .i64 0,.int .i64 0,.int .i64 0,.int .i64 0] R (λ k=>(ps.take i).map λ q=>if k then readsP (sizes l) q.body else writesP (sizes l) kAll q.body) wr) (λ iv _=>np-(intOf iv).toNat)
 case atStart=>exact ⟨0,(λ _=>(.slice none 0 0, [])),rfl,Nat.zero_le _,H4.out⟩
 case round =>
  obtain ⟨i,R,rfl,hin,hR⟩:=hrel
  clear d4
  by_cases hlt:i<np
  ·skip
   have hii:(i:Int)<(np:Int):=by omega
   have hi0:(0:Int)≤(i:Int):=by omega
   have hiw:IntKind.i64.wrap ((i:Int)+1)=((i+1:Nat):Int):=by rw [i64_of (by have:=HD.out.2.2.2.2.2.2.2.1;omega)];rfl
   obtain ⟨q,hq⟩:∃ q,ps[i]? = some q:=⟨_,List.getElem?_eq_getElem (by rw [HD.out.2.2.2.2.2.1];exact hlt)⟩
   obtain ⟨b,o,pb,cb,bc,hpp,hrg,hra,hsf⟩:=HD.out.1.at hq
   dsimp only at hpp
   subst hpp
   have hwf:=HD.out.1.wf q (List.mem_of_getElem? hq)
   obtain ⟨kd,y1,y2,y3,body⟩:=q
   dsimp only at hrg hra hsf hwf
   obtain ⟨bn,hbn⟩:∃ n,body.len=n:=⟨_,rfl⟩
   rw [hbn] at hrg
   have c0:=hrg 0 _ rfl
   have c1:=hrg 1 _ rfl
   have c2:=hrg 2 _ rfl
   have c3:=hrg 3 _ rfl
   have c4:=hrg 4 _ rfl
   rw [Nat.add_zero] at c0
   replace c0:=(hR.bel.cell (World.block_lt_of_cell? _ _ c0)).trans c0
   replace c1:=(hR.bel.cell (World.block_lt_of_cell? _ _ c1)).trans c1
   replace c2:=(hR.bel.cell (World.block_lt_of_cell? _ _ c2)).trans c2
   replace c3:=(hR.bel.cell (World.block_lt_of_cell? _ _ c3)).trans c3
   replace c4:=(hR.bel.cell (World.block_lt_of_cell? _ _ c4)).trans c4
   have hil:(ps.take i).length=i:=by rw [List.length_take,HD.out.2.2.2.2.2.1];omega
   obtain ⟨rp,rc,hr1,hr2⟩:=hR.form true
   obtain ⟨vp,vc,hv1,hv2⟩:=hR.form false
   rw [List.length_map,hil] at hr1 hr2 hv1 hv2
   have hRl:=hR.lay 49 [.int .i64 kd,.int .i64 y1,.int .i64 y2,.int .i64 y3,.slice pb bn cb]
   change AW _ _ _ _ _ _ (wr.alloc (.cells #[.int .i64 kd,.int .i64 y1,.int .i64 y2,.int .i64 y3,.slice pb bn cb] 49)) at hRl
   have htk:∀ k:Bool,((λ k=>(ps.take i).map λ q=>if k then readsP (sizes l) q.body else writesP (sizes l) kAll q.body)) k ++ [if k then readsP (sizes l) body else writesP (sizes l) kAll body]=(λ k:Bool=>(ps.take (i+1)).map λ q=>if k then readsP (sizes l) q.body else writesP (sizes l) kAll q.body) k:=λ k=>by rw [List.take_add_one,hq];simp
   have HL:=Lib.hid (And.intro hRl (And.intro hra (And.intro hsf (And.intro hwf (And.intro hbn (And.intro hlt (And.intro htk (And.intro hr1 (And.intro hr2 (And.intro hv1 hv2))))))))))
   clear hR hrg hra hsf hwf hbn hlt hin hq hRl htk hr1 hr2 hv1 hv2 hil
   go_upto_region 5 with fail
   obtain ⟨xp,hxp⟩:∃ b,wr.heap.size=b:=⟨_,rfl⟩
   rw [hxp] at HL ⊢
   generalize wr.alloc (.cells #[.int .i64 kd,.int .i64 y1,.int .i64 y2,.int .i64 y3,.slice pb bn cb] 49)=w5 at *
   clear hxp c0 c1 c2 c3 c4
   have HAW:=Lib.hid HL.out.1
   have q8:=HAW.out.an.cell (i:=8) rfl
   (try dsimp only at q8)
   rw [HL.out.2.2.2.2.2.2.2.1] at q8
   have dd0:=(HAW.out.at 3 rfl).cell (i:=0) rfl
   have dd1:=(HAW.out.at 3 rfl).cell (i:=1) rfl
   have dd2:=(HAW.out.at 3 rfl).cell (i:=2) rfl
   have dd3:=(HAW.out.at 3 rfl).cell (i:=3) rfl
   have dd4:=(HAW.out.at 3 rfl).cell (i:=4) rfl
   have dd5:=(HAW.out.at 3 rfl).cell (i:=5) rfl
   have dd6:=(HAW.out.at 3 rfl).cell (i:=6) rfl
   have xp0:=(HAW.out.at 0 rfl).cell (i:=0) rfl
   have xp1:=(HAW.out.at 0 rfl).cell (i:=1) rfl
   have xp2:=(HAW.out.at 0 rfl).cell (i:=2) rfl
   have xp3:=(HAW.out.at 0 rfl).cell (i:=3) rfl
   have xp4:=(HAW.out.at 0 rfl).cell (i:=4) rfl
   have HTr:=Lib.hid (Tr.nil w5)
   refine wp_region_webCR (w0:=w5) [.rel (λ v W=>v = .pointer (some ⟨w.heap.size+1+1+1,0,none⟩)) (λ _ => []),.known (.pointer (some ⟨w.heap.size+1+1+1,0,none⟩)),.known (.pointer (some ⟨w.heap.size+1+1+1,0,none⟩)),.known (.pointer (some ⟨w.heap.size+1+1+1,8,none⟩)),.known (.slice rp i rc),.known (.agg #[.slice sp N sc,.slice lp ln lc,.slice ip ni ic,.slice op on oc,.slice (some ⟨b,o,none⟩) np cp,.slice qp qn qc,.slice tp nt tc]),.known (.agg #[.int .i64 kd,.int .i64 y1,.int .i64 y2,.int .i64 y3,.slice pb bn cb]),.rel (UsV w5.heap.size N (readsP (sizes l) body)) (λ _ => []),.rel (λ v W=>∃ L g V b',v = .slice (some ⟨L,0,none⟩) 1 1∧Blk W L 104 [usV g N]∧w5.heap.size≤b'∧UsM b' g W (readsP (sizes l) body) V) (λ _ => [])] [2,1,1,1,1,1,1,1,1] [] 28 4 #[true,true,true,true,true,true,true,true,true,false,false,false,false] (by kernel_rfl) (by kernel_rfl) rfl rfl rfl (Nat.le_of_ble_eq_true rfl) ⟨(λ _ _ _ _ h=>h),Sp.Mono.known,Sp.Mono.known,Sp.Mono.known,Sp.Mono.known,Sp.Mono.known,Sp.Mono.known,mono_us,(λ _ _ _ hb ⟨L,g,V,b',h1,h2,h3,h4⟩=>⟨L,g,V,b',h1,h2.next hb,h3,h4.below hb⟩),trivial⟩ HTr.out.drew (λ _ _ _ _ _ h=>h) (A := ?_) ?_ ?_ ?_
   rotate_left
   ·intro u
    simp only [fillC,Sp.val,Nat.reduceBEq,cond_false,Act.put,List.setIfInBounds_toArray,List.set_cons_zero,List.set_cons_succ]
    rfl
   refine ob_pure (web_pure (o:=_) rfl (λ u W hT hd => ?_)) ?_
   ·have cc0:=aft q8 hT.bel
    have cc1:=aft dd0 hT.bel
    have cc2:=aft dd1 hT.bel
    have cc3:=aft dd2 hT.bel
    have cc4:=aft dd3 hT.bel
    have cc5:=aft dd4 hT.bel
    have cc6:=aft dd5 hT.bel
    have cc7:=aft dd6 hT.bel
    have cc8:=aft xp0 hT.bel
    have cc9:=aft xp1 hT.bel
    have cc10:=aft xp2 hT.bel
    have cc11:=aft xp3 hT.bel
    have cc12:=aft xp4 hT.bel
    exact ⟨_,Or.inl ⟨rfl,λ w=>rfl⟩,rfl,rfl⟩
   iterate 6 (refine ob_yes (web_op (o:=_) rfl (λ u W hT hd Q K hK => ?_)) ?_;· (have cc0:=aft q8 hT.bel;have cc1:=aft dd0 hT.bel;have cc2:=aft dd1 hT.bel;have cc3:=aft dd2 hT.bel;have cc4:=aft dd3 hT.bel;have cc5:=aft dd4 hT.bel;have cc6:=aft dd5 hT.bel;have cc7:=aft dd6 hT.bel;have cc8:=aft xp0 hT.bel;have cc9:=aft xp1 hT.bel;have cc10:=aft xp2 hT.bel;have cc11:=aft xp3 hT.bel;have cc12:=aft xp4 hT.bel;go_simp;exact hK.out _ _ (Below.refl _ _) rfl (λ p hp=>by cases hp) List.nodup_nil))
   refine ob_yes (web_op (o:=_) rfl (λ u W hT hd Q K hK => ?_)) ?_
   ·(try simp only [Act.put,List.setIfInBounds_toArray,List.set_cons_zero,List.set_cons_succ] at hK)
    have cc0:=aft q8 hT.bel
    have cc1:=aft dd0 hT.bel
    have cc2:=aft dd1 hT.bel
    have cc3:=aft dd2 hT.bel
    have cc4:=aft dd3 hT.bel
    have cc5:=aft dd4 hT.bel
    have cc6:=aft dd5 hT.bel
    have cc7:=aft dd6 hT.bel
    have cc8:=aft xp0 hT.bel
    have cc9:=aft xp1 hT.bel
    have cc10:=aft xp2 hT.bel
    have cc11:=aft xp3 hT.bel
    have cc12:=aft xp4 hT.bel
    go_simp
    have hc6:=pread_any (w:=W) (v1 := .slice lp ln lc) (v2 := .slice ip ni ic) (v3 := .slice op on oc) (v4 := .slice (some ⟨b,o,none⟩) np cp) (v5 := .slice qp qn qc) (v6 := .slice tp nt tc) (kv := .int .i64 kd) (q1 := .int .i64 y1) (q2 := .int .i64 y2) (q3 := .int .i64 y3) (B:=base) (by have:=hT.bel.size;have:=HD.out.2.1;have:=HAW.out.bel.size;omega) (HD.out.1.low (Below.mono (Below.trans HAW.out.bel (hT.bel.mono HAW.out.bel.size)) HD.out.2.1)).sg HL.out.2.2.2.1.1 HL.out.2.2.2.1.2 (HL.out.2.1.turn λ k hk hk2=>⟨hk,Below.block (Below.trans HAW.out.bel (hT.bel.mono HAW.out.bel.size)) k hk2⟩) (HL.out.2.2.1.turn EF.stay λ k hk hk2=>⟨hk,Below.block (Below.trans HAW.out.bel (hT.bel.mono HAW.out.bel.size)) k hk2⟩)
    rw [HD.out.2.2.2.2.2.2.1,HL.out.2.2.2.2.1] at hc6
    refine hc6.mono ?_;rintro e w6 ⟨g,V,rfl,hu6,hb6⟩
    exact hK.out _ _ hb6 ⟨g,V,_,rfl,hT.bel.size,hu6⟩ (λ p hp=>by cases hp) List.nodup_nil
   refine ob_yes (web_op (o:=_) rfl (λ u W hT hd Q K hK => ?_)) ?_
   ·have d7:=hd 7 (by kernel_rfl)
    generalize u 7=x7 at *
    obtain ⟨g7,V7,b7,rfl,hb7,hU7⟩:=d7
    (try simp only [Act.put,List.setIfInBounds_toArray,List.set_cons_zero,List.set_cons_succ] at hK)
    have cc0:=aft q8 hT.bel
    have cc1:=aft dd0 hT.bel
    have cc2:=aft dd1 hT.bel
    have cc3:=aft dd2 hT.bel
    have cc4:=aft dd3 hT.bel
    have cc5:=aft dd4 hT.bel
    have cc6:=aft dd5 hT.bel
    have cc7:=aft dd6 hT.bel
    have cc8:=aft xp0 hT.bel
    have cc9:=aft xp1 hT.bel
    have cc10:=aft xp2 hT.bel
    have cc11:=aft xp3 hT.bel
    have cc12:=aft xp4 hT.bel
    go_simp
    exact hK.out _ _ (Below.new _ _) ⟨_,g7,V7,b7,rfl,Blk.new _ _,hb7,hU7.below (Below.new _ _)⟩ (λ p hp=>by cases hp) List.nodup_nil
   exact ob_nil
   intro u wx hT hok
   obtain ⟨h0,h1,h2,h3,h4,h5,h6,h7,h8,_⟩:=hok
   clear h1 h2 h3 h4 h5 h6 h7
   simp only [ownsC,Sp.own,Nat.reduceBEq,cond_false,List.append_nil] at hT
   have d0:=h0 (by kernel_rfl)
   clear h0
   generalize u 0=x0 at *
   have e0:x0 = .pointer (some ⟨w.heap.size+1+1+1,0,none⟩):=d0
   subst e0
   have d8:=h8 (by kernel_rfl)
   clear h8
   generalize u 8=x8 at *
   obtain ⟨L8,g8,V8,b8,rfl,hB8,hb8,hU8⟩:=d8
   (try dsimp only [List.nil_append,List.cons_append] at hT)
   have HTE:=Lib.hid hT
   clear hT
   clear HTr q8 dd0 dd1 dd2 dd3 dd4 dd5 dd6 xp0 xp1 xp2 xp3 xp4
   refine wpAny_of_held (S:=λ _=>True) _ _ _ _ ?_
   have hW2:=HAW.out.below HTE.out.bel
   have hown:=hW2.mem.own true
   have hlen:=HL.out.2.2.2.2.2.2.2.2.1
   rw [hlen,HL.out.2.2.2.2.2.2.2.1] at hown
   refine wpAnyH_ready (rs := [9]) (by kernel_rfl) (by simp) ?_
   refine held_cons rfl (λ K hK => ?_) AllReadyH.nil
   refine step_appR rfl _ _ 101 rfl TUses w.heap.size (.slice rp i rc) i _ rfl hown (.slice (some ⟨L8,0,none⟩) 1 1) 1 [usV g8 N] rfl hB8.roa.ro (by simp [Value.oneCell']) (by have:=HD.out.2.2.2.2.2.2.2.1;have:=HL.out.2.2.2.2.2.1;omega) (by have:=HD.out.2.2.2.2.2.2.2.1;have:=HL.out.2.2.2.2.2.1;omega) hW2.bel.size ?_
   intro v9 w9 happ
   have hul:(readsP (sizes l) body).length=N:=by rw [readsP_len];simp [sizes];exact HD.out.2.2.2.2.2.2.1
   have hus8:US (λ b=>w5.heap.size≤b) wx (usV g8 N) (readsP (sizes l) body):=by
    have:=hU8.us
    rw [hul] at this
    exact this.turn λ b hb2 _=>⟨Nat.le_trans hb8 (hU8.flt b hb2).1,rfl⟩
   have hadd:=HAW.out.add true HTE.out.bel hus8 (by rw [HL.out.2.2.2.2.2.2.2.1];exact happ)
   obtain ⟨v9p,v9c,hv9⟩:=ownsRow_form happ.own
   subst hv9
   have a9c:=hadd.an.cell (i:=8) rfl
   (try dsimp only at a9c)
   have a9f:=hadd.an.frz 8
   have hsto:=hadd.store 8 (.slice v9p (i+1) v9c)
   have HS5:=Lib.hid hsto
   clear hW2 hown hlen hus8 hul happ hadd hsto hB8 hb8 hU8
   refine hK.out _ _ trivial (λ _ => ?_)
   clear hK K
   (try simp only [Act.put,List.setIfInBounds_toArray,List.set_cons_zero,List.set_cons_succ])
   refine wpAnyH_ready (rs := [10]) (by kernel_rfl) (by simp) ?_
   refine held_cons rfl (λ K hK => ?_) AllReadyH.nil
   go_simp
   refine hK.out _ _ trivial (λ _ => ?_)
   clear hK K
   (try simp only [List.setIfInBounds_toArray,List.set_cons_zero,List.set_cons_succ])
   refine wpAnyH_ready (rs := [11]) (by kernel_rfl) (by simp) ?_
   refine held_cons rfl (λ K hK => ?_) AllReadyH.nil
   go_simp
   refine hK.out _ _ trivial (λ _ => ?_)
   clear hK K
   (try simp only [List.setIfInBounds_toArray,List.set_cons_zero,List.set_cons_succ])
   refine wpAnyH_ready (rs := [12]) (by kernel_rfl) (by simp) ?_
   refine held_cons rfl (λ K hK => ?_) AllReadyH.nil
   go_simp
   refine hK.out _ _ trivial (λ _ => ?_)
   clear hK K
   (try simp only [List.setIfInBounds_toArray,List.set_cons_zero,List.set_cons_succ])
   refine wpAnyH_done (by kernel_rfl) ?_ _
   have hrf:upd R true ((.slice v9p (i+1) v9c:Value),(R true).2 ++ [usV g8 N]) false=R false:=upd_other _ _ (by decide)
   have HRf:=Lib.hid hrf
   clear hrf
   have HWx:=Lib.hid HTE.out.bel
   clear HTE a9c a9f
   go_upto_region 6 with fail
   generalize w9.setCell ⟨w.heap.size+1+1+1,8,none⟩ (.slice v9p (i+1) v9c)=w10 at *
   clear HWx HAW
   obtain ⟨X5,hX5⟩:∃ X,((.slice v9p (i+1) v9c:Value),(R true).2 ++ [usV g8 N])=X:=⟨_,rfl⟩
   have HX5:=Lib.hid hX5
   rw [hX5] at HS5 HRf
   clear hX5
   have q8:=HS5.out.an.cell (i:=9) rfl
   (try dsimp only at q8)
   rw [HL.out.2.2.2.2.2.2.2.2.2.1] at q8
   have dd0:=(HS5.out.at 3 rfl).cell (i:=0) rfl
   have dd1:=(HS5.out.at 3 rfl).cell (i:=1) rfl
   have dd2:=(HS5.out.at 3 rfl).cell (i:=2) rfl
   have dd3:=(HS5.out.at 3 rfl).cell (i:=3) rfl
   have dd4:=(HS5.out.at 3 rfl).cell (i:=4) rfl
   have dd5:=(HS5.out.at 3 rfl).cell (i:=5) rfl
   have dd6:=(HS5.out.at 3 rfl).cell (i:=6) rfl
   have xp0:=(HS5.out.at 0 rfl).cell (i:=0) rfl
   have xp1:=(HS5.out.at 0 rfl).cell (i:=1) rfl
   have xp2:=(HS5.out.at 0 rfl).cell (i:=2) rfl
   have xp3:=(HS5.out.at 0 rfl).cell (i:=3) rfl
   have xp4:=(HS5.out.at 0 rfl).cell (i:=4) rfl
   have HTr:=Lib.hid (Tr.nil w10)
   refine wp_region_webCR (w0:=w10) [.rel (λ v W=>v = .pointer (some ⟨w.heap.size+1+1+1,0,none⟩)) (λ _ => []),.known (.pointer (some ⟨w.heap.size+1+1+1,0,none⟩)),.known (.pointer (some ⟨w.heap.size+1+1+1,0,none⟩)),.known (.pointer (some ⟨w.heap.size+1+1+1,9,none⟩)),.known (.slice vp i vc),.known (.agg #[.slice sp N sc,.slice lp ln lc,.slice ip ni ic,.slice op on oc,.slice (some ⟨b,o,none⟩) np cp,.slice qp qn qc,.slice tp nt tc]),.known (.agg #[.int .i64 kd,.int .i64 y1,.int .i64 y2,.int .i64 y3,.slice pb bn cb]),.rel (λ v W=>∃ L,v = .slice (some ⟨L,0,none⟩) 2 2∧Blk W L 3 (ints [1,2])) (λ _ => []),.rel (UsV w10.heap.size N (writesP (sizes l) kAll body)) (λ _ => []),.rel (λ v W=>∃ L g V b',v = .slice (some ⟨L,0,none⟩) 1 1∧Blk W L 104 [usV g N]∧w10.heap.size≤b'∧UsM b' g W (writesP (sizes l) kAll body) V) (λ _ => [])] [2,1,1,1,1,1,1,1,1,1] [] 41 4 #[true,true,true,true,true,true,true,true,true,true,false,false,false,false] (by kernel_rfl) (by kernel_rfl) rfl rfl rfl (Nat.le_of_ble_eq_true rfl) ⟨(λ _ _ _ _ h=>h),Sp.Mono.known,Sp.Mono.known,Sp.Mono.known,Sp.Mono.known,Sp.Mono.known,Sp.Mono.known,mono_sl,mono_us,(λ _ _ _ hb ⟨L,g,V,b',h1,h2,h3,h4⟩=>⟨L,g,V,b',h1,h2.next hb,h3,h4.below hb⟩),trivial⟩ HTr.out.drew (λ _ _ _ _ _ h=>h) (A := ?_) ?_ ?_ ?_
   rotate_left
   ·intro u
    simp only [fillC,Sp.val,Nat.reduceBEq,cond_false,Act.put,List.setIfInBounds_toArray,List.set_cons_zero,List.set_cons_succ]
    rfl
   refine ob_pure (web_pure (o:=_) rfl (λ u W hT hd => ?_)) ?_
   ·have cc0:=aft q8 hT.bel
    have cc1:=aft dd0 hT.bel
    have cc2:=aft dd1 hT.bel
    have cc3:=aft dd2 hT.bel
    have cc4:=aft dd3 hT.bel
    have cc5:=aft dd4 hT.bel
    have cc6:=aft dd5 hT.bel
    have cc7:=aft dd6 hT.bel
    have cc8:=aft xp0 hT.bel
    have cc9:=aft xp1 hT.bel
    have cc10:=aft xp2 hT.bel
    have cc11:=aft xp3 hT.bel
    have cc12:=aft xp4 hT.bel
    exact ⟨_,Or.inl ⟨rfl,λ w=>rfl⟩,rfl,rfl⟩
   iterate 6 (refine ob_yes (web_op (o:=_) rfl (λ u W hT hd Q K hK => ?_)) ?_;· (have cc0:=aft q8 hT.bel;have cc1:=aft dd0 hT.bel;have cc2:=aft dd1 hT.bel;have cc3:=aft dd2 hT.bel;have cc4:=aft dd3 hT.bel;have cc5:=aft dd4 hT.bel;have cc6:=aft dd5 hT.bel;have cc7:=aft dd6 hT.bel;have cc8:=aft xp0 hT.bel;have cc9:=aft xp1 hT.bel;have cc10:=aft xp2 hT.bel;have cc11:=aft xp3 hT.bel;have cc12:=aft xp4 hT.bel;go_simp;exact hK.out _ _ (Below.refl _ _) rfl (λ p hp=>by cases hp) List.nodup_nil))
   refine ob_yes (web_op (o:=_) rfl (λ u W hT hd Q K hK => ?_)) ?_
   ·(try simp only [Act.put,List.setIfInBounds_toArray,List.set_cons_zero,List.set_cons_succ] at hK)
    have cc0:=aft q8 hT.bel
    have cc1:=aft dd0 hT.bel
    have cc2:=aft dd1 hT.bel
    have cc3:=aft dd2 hT.bel
    have cc4:=aft dd3 hT.bel
    have cc5:=aft dd4 hT.bel
    have cc6:=aft dd5 hT.bel
    have cc7:=aft dd6 hT.bel
    have cc8:=aft xp0 hT.bel
    have cc9:=aft xp1 hT.bel
    have cc10:=aft xp2 hT.bel
    have cc11:=aft xp3 hT.bel
    have cc12:=aft xp4 hT.bel
    go_simp
    exact hK.out _ _ (Below.new _ _) ⟨_,rfl,Blk.new _ _⟩ (λ p hp=>by cases hp) List.nodup_nil
   refine ob_yes (web_op (o:=_) rfl (λ u W hT hd Q K hK => ?_)) ?_
   ·have d7:=hd 7 (by kernel_rfl)
    generalize u 7=x7 at *
    obtain ⟨L7,rfl,hB7⟩:=d7
    (try simp only [Act.put,List.setIfInBounds_toArray,List.set_cons_zero,List.set_cons_succ] at hK)
    have cc0:=aft q8 hT.bel
    have cc1:=aft dd0 hT.bel
    have cc2:=aft dd1 hT.bel
    have cc3:=aft dd2 hT.bel
    have cc4:=aft dd3 hT.bel
    have cc5:=aft dd4 hT.bel
    have cc6:=aft dd5 hT.bel
    have cc7:=aft dd6 hT.bel
    have cc8:=aft xp0 hT.bel
    have cc9:=aft xp1 hT.bel
    have cc10:=aft xp2 hT.bel
    have cc11:=aft xp3 hT.bel
    have cc12:=aft xp4 hT.bel
    go_simp
    have hc6:=pwritten_any (w:=W) (v1 := .slice lp ln lc) (v2 := .slice ip ni ic) (v3 := .slice op on oc) (v4 := .slice (some ⟨b,o,none⟩) np cp) (v5 := .slice qp qn qc) (v6 := .slice tp nt tc) (kv := .int .i64 kd) (q1 := .int .i64 y1) (q2 := .int .i64 y2) (q3 := .int .i64 y3) (il := [1,2]) hB7.roa (by decide) kAll_ok (B:=base) (by have:=hT.bel.size;have:=HD.out.2.1;have:=HS5.out.bel.size;omega) (HD.out.1.low (Below.mono (Below.trans HS5.out.bel (hT.bel.mono HS5.out.bel.size)) HD.out.2.1)).sg HL.out.2.2.2.1.1 HL.out.2.2.2.1.2 (HL.out.2.1.turn λ k hk hk2=>⟨hk,Below.block (Below.trans HS5.out.bel (hT.bel.mono HS5.out.bel.size)) k hk2⟩) (HL.out.2.2.1.turn EF.stay λ k hk hk2=>⟨hk,Below.block (Below.trans HS5.out.bel (hT.bel.mono HS5.out.bel.size)) k hk2⟩)
    rw [HD.out.2.2.2.2.2.2.1,HL.out.2.2.2.2.1] at hc6
    refine hc6.mono ?_;rintro e w6 ⟨g,V,rfl,hu6,hb6⟩
    exact hK.out _ _ hb6 ⟨g,V,_,rfl,hT.bel.size,hu6⟩ (λ p hp=>by cases hp) List.nodup_nil
   refine ob_yes (web_op (o:=_) rfl (λ u W hT hd Q K hK => ?_)) ?_
   ·have d8:=hd 8 (by kernel_rfl)
    generalize u 8=x8 at *
    obtain ⟨g7,V7,b7,rfl,hb7,hU7⟩:=d8
    (try simp only [Act.put,List.setIfInBounds_toArray,List.set_cons_zero,List.set_cons_succ] at hK)
    have cc0:=aft q8 hT.bel
    have cc1:=aft dd0 hT.bel
    have cc2:=aft dd1 hT.bel
    have cc3:=aft dd2 hT.bel
    have cc4:=aft dd3 hT.bel
    have cc5:=aft dd4 hT.bel
    have cc6:=aft dd5 hT.bel
    have cc7:=aft dd6 hT.bel
    have cc8:=aft xp0 hT.bel
    have cc9:=aft xp1 hT.bel
    have cc10:=aft xp2 hT.bel
    have cc11:=aft xp3 hT.bel
    have cc12:=aft xp4 hT.bel
    go_simp
    exact hK.out _ _ (Below.new _ _) ⟨_,g7,V7,b7,rfl,Blk.new _ _,hb7,hU7.below (Below.new _ _)⟩ (λ p hp=>by cases hp) List.nodup_nil
   exact ob_nil
   intro u wx hT hok
   obtain ⟨h0,h1,h2,h3,h4,h5,h6,h7,h8,h9,_⟩:=hok
   clear h1 h2 h3 h4 h5 h6 h7 h8
   simp only [ownsC,Sp.own,Nat.reduceBEq,cond_false,List.append_nil] at hT
   have d0:=h0 (by kernel_rfl)
   clear h0
   generalize u 0=x0 at *
   have e0:x0 = .pointer (some ⟨w.heap.size+1+1+1,0,none⟩):=d0
   subst e0
   have d9:=h9 (by kernel_rfl)
   clear h9
   generalize u 9=x9 at *
   obtain ⟨L8,g8,V8,b8,rfl,hB8,hb8,hU8⟩:=d9
   (try dsimp only [List.nil_append,List.cons_append] at hT)
   have HTE:=Lib.hid hT
   clear hT
   clear HTr q8 dd0 dd1 dd2 dd3 dd4 dd5 dd6 xp0 xp1 xp2 xp3 xp4
   refine wpAny_of_held (S:=λ _=>True) _ _ _ _ ?_
   have hW2:=HS5.out.below HTE.out.bel
   have hown:=hW2.mem.own false
   have hlen:=HL.out.2.2.2.2.2.2.2.2.2.2
   rw [HRf.out] at hown
   rw [hlen,HL.out.2.2.2.2.2.2.2.2.2.1] at hown
   refine wpAnyH_ready (rs := [10]) (by kernel_rfl) (by simp) ?_
   refine held_cons rfl (λ K hK => ?_) AllReadyH.nil
   refine step_appR rfl _ _ 101 rfl TUses w.heap.size (.slice vp i vc) i _ rfl hown (.slice (some ⟨L8,0,none⟩) 1 1) 1 [usV g8 N] rfl hB8.roa.ro (by simp [Value.oneCell']) (by have:=HD.out.2.2.2.2.2.2.2.1;have:=HL.out.2.2.2.2.2.1;omega) (by have:=HD.out.2.2.2.2.2.2.2.1;have:=HL.out.2.2.2.2.2.1;omega) hW2.bel.size ?_
   intro v9 w9 happ
   have hul:(writesP (sizes l) kAll body).length=N:=by rw [writesP_len];simp [sizes];exact HD.out.2.2.2.2.2.2.1
   have hus8:US (λ b=>w10.heap.size≤b) wx (usV g8 N) (writesP (sizes l) kAll body):=by
    have:=hU8.us
    rw [hul] at this
    exact this.turn λ b hb2 _=>⟨Nat.le_trans hb8 (hU8.flt b hb2).1,rfl⟩
   have hadd:=HS5.out.add false HTE.out.bel hus8 (by rw [HRf.out,HL.out.2.2.2.2.2.2.2.2.2.1];exact happ)
   obtain ⟨v9p,v9c,hv9⟩:=ownsRow_form happ.own
   subst hv9
   have a9c:=hadd.an.cell (i:=9) rfl
   (try dsimp only at a9c)
   have a9f:=hadd.an.frz 9
   have hsto:=hadd.store 9 (.slice v9p (i+1) v9c)
   have HS6:=Lib.hid hsto
   clear hW2 hown hlen hus8 hul happ hadd hsto hB8 hb8 hU8
   refine hK.out _ _ trivial (λ _ => ?_)
   clear hK K
   (try simp only [Act.put,List.setIfInBounds_toArray,List.set_cons_zero,List.set_cons_succ])
   refine wpAnyH_ready (rs := [11]) (by kernel_rfl) (by simp) ?_
   refine held_cons rfl (λ K hK => ?_) AllReadyH.nil
   go_simp
   refine hK.out _ _ trivial (λ _ => ?_)
   clear hK K
   (try simp only [List.setIfInBounds_toArray,List.set_cons_zero,List.set_cons_succ])
   refine wpAnyH_ready (rs := [12]) (by kernel_rfl) (by simp) ?_
   refine held_cons rfl (λ K hK => ?_) AllReadyH.nil
   go_simp
   refine hK.out _ _ trivial (λ _ => ?_)
   clear hK K
   (try simp only [List.setIfInBounds_toArray,List.set_cons_zero,List.set_cons_succ])
   refine wpAnyH_ready (rs := [13]) (by kernel_rfl) (by simp) ?_
   refine held_cons rfl (λ K hK => ?_) AllReadyH.nil
   go_simp
   refine hK.out _ _ trivial (λ _ => ?_)
   clear hK K
   (try simp only [List.setIfInBounds_toArray,List.set_cons_zero,List.set_cons_succ])
   refine wpAnyH_done (by kernel_rfl) ?_ _
   clear HTE a9c a9f
   go_wp2_with fail
   go_roundw
   case measure=>simp [intOf];have:=HL.out.2.2.2.2.2.1;omega
   case rel =>
    have h9:=(HS6.out.drop 1).congr (F':=λ k:Bool=>(ps.take (i+1)).map λ q=>if k then readsP (sizes l) q.body else writesP (sizes l) kAll q.body) (λ k=>by
     cases k
     ·exact HL.out.2.2.2.2.2.2.1 false
     ·exact HL.out.2.2.2.2.2.2.1 true)
    exact ⟨i+1,upd (upd R true X5) false (.slice v9p (i+1) v9c,(upd R true X5 false).2 ++ [usV g8 N]),by go_num,HL.out.2.2.2.2.2.1,by have e1:=HX5.out;subst e1;exact h9⟩
  ·obtain rfl:np=i:=by omega
   have hii:¬(np:Int)<(np:Int):=by omega
   have hlen:(ps.take np).length=np:=by rw [List.length_take,HD.out.2.2.2.2.2.1];omega
   obtain ⟨rp,rc,hr1,_⟩:=hR.form true
   obtain ⟨vp,vc,hv1,_⟩:=hR.form false
   rw [List.length_map,hlen] at hr1 hv1
   have htk:ps.take np=ps:=by rw [←HD.out.2.2.2.2.2.1,List.take_length]
   have han:=hR.an
   rw [hr1,hv1] at han
   have hdd:=HD.out.1.low (hR.bel.mono HD.out.2.1)
   have hu1:=hR.uu true
   have hu2:=hR.uu false
   rw [hr1,htk] at hu1
   rw [hv1,htk] at hu2
   have hAN:AN base (w.heap.size+1+1+1) (⟨sp,sc,lp,ln,lc,ip,ic,op,on,oc,pp,cp,qp,qn,qc,tp,tc,rp,rc,vp,vc⟩:AX) (.slice none 0 0) l ps il sts 0 0 0 0 wr:=by
    refine ⟨?_,⟨hdd.sg,hdd.ip,hdd.nl,hdd.pr,hdd.pl,hdd.st,hdd.wf,hdd.np,hdd.nt⟩,⟨?_,?_⟩,by have:=HD.out.2.1;omega⟩
    ·rw [HD.out.2.2.2.2.2.2.1,HD.out.2.2.2.2.2.1,HD.out.2.2.2.2.2.2.2.2.1,HD.out.2.2.2.2.2.2.2.2.2];exact han
    ·rw [HD.out.2.2.2.2.2.1];exact hu1
    ·rw [HD.out.2.2.2.2.2.1];exact hu2
   have hZ:AZ base (w.heap.size+1+1+1) (w.heap.size+1) (w.heap.size+1+1) (⟨sp,sc,lp,ln,lc,ip,ic,op,on,oc,pp,cp,qp,qn,qc,tp,tc,rp,rc,vp,vc⟩:AX) (.slice none 0 0) l ps il sts w (True) 0 0 0 0 wr:=⟨hAN,by simp,hR.at 1 rfl,hR.at 0 rfl,hR.bel,⟨by omega,by omega,by omega⟩,⟨by omega,by omega⟩⟩
   have HZ:=Lib.hid hZ
   clear hR hlt hin hlen hr1 hv1 htk han hdd hu1 hu2 hAN hZ
   go_wp2_with fail
   refine (kinds_any HZ.out.an.an HZ.out.an.dd HZ.out.an.hb).mono ?_;rintro en v1 ⟨rfl,hk1⟩
   obtain ⟨q1_1,q2_1,q3_1,e_1,hz1⟩:=HZ.out.step hk1
   clear HZ
   have HZ:=Lib.hid hz1
   clear hz1
   clear hk1
   go_wp2_with fail
   refine (drives_any HZ.out.an.an HZ.out.an.dd HZ.out.an.ud HZ.out.an.hb).mono ?_;rintro en v2 ⟨rfl,hk2⟩
   obtain ⟨q1_2,q2_2,q3_2,e_2,hz2⟩:=HZ.out.step hk2
   clear HZ
   have HZ:=Lib.hid hz2
   clear hz2
   clear hk2
   go_wp2_with fail
   refine (prole_any ⟨_,_,_,rfl⟩ HZ.out.an.an HZ.out.an.dd HZ.out.an.ud HZ.out.an.hb HD.out.2.2.2.1).mono ?_;rintro en v3 ⟨rfl,rb,hrb,han3,hrow3,hup3⟩
   have hab3:=HZ.out.an.an.lt
   have hz3:∃ C,C=((True∧kindsC l ps)∧drivesC l ps il)∧AZ base (w.heap.size+1+1+1) (w.heap.size+1) (w.heap.size+1+1) (⟨sp,sc,lp,ln,lc,ip,ic,op,on,oc,pp,cp,qp,qn,qc,tp,tc,rp,rc,vp,vc⟩:AX) (.slice (some ⟨rb,0,none⟩) l.length l.length) l ps il sts w (C) q1_2 q2_2 q3_2 e_2 v3:=⟨_,rfl,⟨⟨han3,HZ.out.an.dd.low (hup3.lowF (λ b e9=>by have e2:b=w.heap.size+1+1+1:=e9;have:=HD.out.2.1;omega) (by have:=HD.out.2.1;have:=HZ.out.bel.size;omega)),HZ.out.an.ud.turn λ b hb hlt=>⟨hb,hup3.block b hlt (λ e9=>hb e9)⟩,HZ.out.an.hb⟩,HZ.out.ec,hup3.blk HZ.out.bI HZ.out.ne.1,hup3.blk HZ.out.bP HZ.out.ne.2,HZ.out.bel.trans (hup3.lowF (λ b e9=>by have e2:b=w.heap.size+1+1+1:=e9;omega) HZ.out.bel.size),HZ.out.ge,HZ.out.ne⟩⟩
   obtain ⟨C3,hC3,hz3⟩:=hz3
   have hr3:ROA (λ k=>k≠w.heap.size+1+1+1) v3 (.slice (some ⟨rb,0,none⟩) l.length l.length) 1 l.length (ints (rolesP l ps il)):=blkRoa hrow3 (by simp [ints,rolesP]) (by omega)
   have HRb:Hid (w.heap.size≤rb∧rb≠w.heap.size+1∧rb≠w.heap.size+1+1):=Lib.hid (by have h1:=HZ.out.bI.lt;have h2:=HZ.out.bP.lt;omega)
   clear HZ
   have HZ:=Lib.hid hz3
   have HR3:=Lib.hid hr3
   have HC3:=Lib.hid hC3
   clear han3 hrow3 hup3 hz3 hr3 hab3 hrb hC3
   go_wp2_with fail
   refine (races_any HZ.out.an.an HZ.out.an.dd HZ.out.an.ud HZ.out.an.hb HR3.out).mono ?_;rintro en v4 ⟨rfl,hk4⟩
   obtain ⟨q1_4,q2_4,q3_4,e_4,hz4⟩:=HZ.out.step hk4
   clear HZ
   have HZ:=Lib.hid hz4
   clear hz4
   have hr4:=hk4.roa (λ _ h=>h) HR3.out
   clear HR3
   have HR3:=Lib.hid hr4
   clear hk4 hr4
   go_wp2_with fail
   refine (undriven_any HZ.out.an.an HZ.out.an.dd HZ.out.an.ud HZ.out.an.hb HR3.out HD.out.2.2.1).mono ?_;rintro en v5 ⟨rfl,hk5⟩
   obtain ⟨q1_5,q2_5,q3_5,e_5,hz5⟩:=HZ.out.step hk5
   clear HZ
   have HZ:=Lib.hid hz5
   clear hz5
   have hr5:=hk5.roa (λ _ h=>h) HR3.out
   clear HR3
   have HR3:=Lib.hid hr5
   clear hk5 hr5
   go_wp2_with fail
   refine (latches_any HZ.out.an).mono ?_;rintro en v6 ⟨rfl,hk6⟩
   obtain ⟨q1_6,q2_6,q3_6,e_6,hz6⟩:=HZ.out.step hk6
   clear HZ
   have HZ:=Lib.hid hz6
   clear hz6
   have hr6:=hk6.roa (λ _ h=>h) HR3.out
   clear HR3
   have HR3:=Lib.hid hr6
   clear hk6 hr6
   have a13:=HZ.out.an.an.cell (i:=13) rfl
   (try dsimp only at a13)
   obtain ⟨ez,hez⟩:∃ z,(e_6 == 0)=z:=⟨_,rfl⟩
   have hezn:(e_6 != 0) = !ez:=by rw [←hez];rfl
   have HEz:=Lib.hid hez
   cases ez
   case false =>
    go_upto_region 15 with fail
    have HKB:Hid (∀ W:World,Blk W (w.heap.size+1+1+1) 103 (((⟨sp,sc,lp,ln,lc,ip,ic,op,on,oc,pp,cp,qp,qn,qc,tp,tc,rp,rc,vp,vc⟩:AX).h l.length il.length ps.length sts.length (.slice (some ⟨rb,0,none⟩) l.length l.length)).cells q1_6 q2_6 q3_6 e_6)→(λ W=>W.cell? ⟨w.heap.size+1+1+1,10,none⟩=some (.int .i64 q1_6)∧W.cell? ⟨w.heap.size+1+1+1,11,none⟩=some (.int .i64 q2_6)∧W.cell? ⟨w.heap.size+1+1+1,12,none⟩=some (.int .i64 q3_6)∧W.cell? ⟨w.heap.size+1+1+1,13,none⟩=some (.int .i64 e_6)) W):=Lib.hid λ W hb=>⟨hb.cell (i:=10) rfl,hb.cell (i:=11) rfl,hb.cell (i:=12) rfl,hb.cell (i:=13) rfl⟩
    have han:=HZ.out.an.an
    have hbi:=HZ.out.bI
    have hbp:=HZ.out.bP
    have hne1:=HZ.out.ne.1
    have hne2:=HZ.out.ne.2
    have hb3:w.heap.size+1≠w.heap.size+1+1:=by omega
    have ha1:=(han.other (a:=⟨w.heap.size+1,0,none⟩) (.slice none 0 0) (Ne.symm hne1)).other (a:=⟨w.heap.size+1,1,none⟩) (.slice none 0 0) (Ne.symm hne1)
    have ha2:=((ha1.other (a:=⟨w.heap.size+1+1,0,none⟩) (.int .i64 q1_6) (Ne.symm hne2)).other (a:=⟨w.heap.size+1+1,1,none⟩) (.int .i64 q2_6) (Ne.symm hne2)).other (a:=⟨w.heap.size+1+1,2,none⟩) (.int .i64 q3_6) (Ne.symm hne2)
    have hi2:=((((hbi.set 0 (.slice none 0 0)).set 1 (.slice none 0 0)).other (a:=⟨w.heap.size+1+1,0,none⟩) (.int .i64 q1_6) hb3).other (a:=⟨w.heap.size+1+1,1,none⟩) (.int .i64 q2_6) hb3).other (a:=⟨w.heap.size+1+1,2,none⟩) (.int .i64 q3_6) hb3
    have hp1:=(hbp.other (a:=⟨w.heap.size+1,0,none⟩) (.slice none 0 0) (Ne.symm hb3)).other (a:=⟨w.heap.size+1,1,none⟩) (.slice none 0 0) (Ne.symm hb3)
    have hp2:=((hp1.set 0 (.int .i64 q1_6)).set 1 (.int .i64 q2_6)).set 2 (.int .i64 q3_6)
    have i0:=hbi.cell (i:=0) rfl
    have if0:=hbi.frz 0
    have i1:=hbi.cell (i:=1) rfl
    have if1:=hbi.frz 1
    have pc0:=hp1.cell (i:=0) rfl
    have pf0:=hp1.frz 0
    have pc1:=hp1.cell (i:=1) rfl
    have pf1:=hp1.frz 1
    have pc2:=hp1.cell (i:=2) rfl
    have pf2:=hp1.frz 2
    have i0d:=hbi.drew.cell (i:=0) rfl
    have if0d:=hbi.drew.frz 0
    have i1d:=hbi.drew.cell (i:=1) rfl
    have if1d:=hbi.drew.frz 1
    have pc0d:=hp1.drew.cell (i:=0) rfl
    have pf0d:=hp1.drew.frz 0
    have pc1d:=hp1.drew.cell (i:=1) rfl
    have pf1d:=hp1.drew.frz 1
    have pc2d:=hp1.drew.cell (i:=2) rfl
    have pf2d:=hp1.drew.frz 2
    have HF:=Lib.hid (And.intro han.drew (And.intro ha1.drew (And.intro ha2.drew (And.intro hi2.drew hp2.drew))))
    clear han ha1 ha2 hi2 hp1 hp2 hbi hbp hne1 hne2 hb3 a13
    refine wp_region_held_drew (S:=(λ W=>W.cell? ⟨w.heap.size+1+1+1,10,none⟩=some (.int .i64 q1_6)∧W.cell? ⟨w.heap.size+1+1+1,11,none⟩=some (.int .i64 q2_6)∧W.cell? ⟨w.heap.size+1+1+1,12,none⟩=some (.int .i64 q3_6)∧W.cell? ⟨w.heap.size+1+1+1,13,none⟩=some (.int .i64 e_6))) (by kernel_rfl) ?_ (λ hHeld => ?_)
    ·exact HKB.out _ HF.out.1
    refine held_take (i:=0) (v := ?_) rfl (by kernel_rfl) (by kernel_rfl) (by kernel_rfl) (λ _ _ _ h=>h) (Or.inl ⟨by rfl,?_⟩) hHeld ?_
    rotate_left
    ·intro w hSw;(try dsimp only at hSw);go_simp;(try with_reducible rfl)
    (try simp only [Act.put,List.setIfInBounds_toArray,List.set_cons_zero,List.set_cons_succ])
    refine held_take (i:=1) (v := ?_) rfl (by kernel_rfl) (by kernel_rfl) (by kernel_rfl) (λ _ _ _ h=>h) (Or.inl ⟨by rfl,?_⟩) hHeld ?_
    rotate_left
    ·intro w hSw;(try dsimp only at hSw);go_simp;(try with_reducible rfl)
    (try simp only [Act.put,List.setIfInBounds_toArray,List.set_cons_zero,List.set_cons_succ])
    refine held_take (i:=2) (v := ?_) rfl (by kernel_rfl) (by kernel_rfl) (by kernel_rfl) (λ _ _ _ h=>h) (Or.inl ⟨by rfl,?_⟩) hHeld ?_
    rotate_left
    ·intro w hSw;(try dsimp only at hSw);go_simp;(try with_reducible rfl)
    (try simp only [Act.put,List.setIfInBounds_toArray,List.set_cons_zero,List.set_cons_succ])
    refine held_take (i:=3) (v := ?_) rfl (by kernel_rfl) (by kernel_rfl) (by kernel_rfl) (λ _ _ _ h=>h) (Or.inl ⟨by rfl,?_⟩) hHeld ?_
    rotate_left
    ·intro w hSw;(try dsimp only at hSw);go_simp;(try with_reducible rfl)
    (try simp only [Act.put,List.setIfInBounds_toArray,List.set_cons_zero,List.set_cons_succ])
    refine held_take (i:=4) (v := ?_) rfl (by kernel_rfl) (by kernel_rfl) (by kernel_rfl) (λ _ _ _ h=>h) (Or.inl ⟨by rfl,?_⟩) hHeld ?_
    rotate_left
    ·intro w hSw;(try dsimp only at hSw);go_simp;(try with_reducible rfl)
    (try simp only [Act.put,List.setIfInBounds_toArray,List.set_cons_zero,List.set_cons_succ])
    refine held_take (i:=5) (v := ?_) rfl (by kernel_rfl) (by kernel_rfl) (by kernel_rfl) (λ _ _ _ h=>h) (Or.inl ⟨by rfl,?_⟩) hHeld ?_
    rotate_left
    ·intro w hSw;(try dsimp only at hSw);go_simp;(try with_reducible rfl)
    (try simp only [Act.put,List.setIfInBounds_toArray,List.set_cons_zero,List.set_cons_succ])
    refine held_take (i:=6) (v := ?_) rfl (by kernel_rfl) (by kernel_rfl) (by kernel_rfl) (λ _ _ _ h=>h) (Or.inl ⟨by rfl,?_⟩) hHeld ?_
    rotate_left
    ·intro w hSw;(try dsimp only at hSw);go_simp;(try with_reducible rfl)
    (try simp only [Act.put,List.setIfInBounds_toArray,List.set_cons_zero,List.set_cons_succ])
    refine held_take (i:=7) (v := ?_) rfl (by kernel_rfl) (by kernel_rfl) (by kernel_rfl) (λ _ _ _ h=>h) (Or.inl ⟨by rfl,?_⟩) hHeld ?_
    rotate_left
    ·intro w hSw;(try dsimp only at hSw);go_simp;(try with_reducible rfl)
    (try simp only [Act.put,List.setIfInBounds_toArray,List.set_cons_zero,List.set_cons_succ])
    refine held_take (i:=8) (v := ?_) rfl (by kernel_rfl) (by kernel_rfl) (by kernel_rfl) (λ _ _ _ h=>h) (Or.inl ⟨by rfl,?_⟩) hHeld ?_
    rotate_left
    ·intro w hSw;(try dsimp only at hSw);go_simp;(try with_reducible rfl)
    (try simp only [Act.put,List.setIfInBounds_toArray,List.set_cons_zero,List.set_cons_succ])
    refine wpAnyH_ready (rs := [9]) (by kernel_rfl) (by simp) ?_
    refine held_cons rfl (λ K hK => ?_) AllReadyH.nil
    go_simp
    refine hK.out _ _ ?_ (λ hHeld2 => ?_)
    ·(try dsimp only)
     exact HKB.out _ HF.out.2.1
    clear hK K hHeld
    have hHeld:=hHeld2
    clear hHeld2
    (try simp only [Act.put,List.setIfInBounds_toArray,List.set_cons_zero,List.set_cons_succ])
    refine wpAnyH_ready (rs := [10]) (by kernel_rfl) (by simp) ?_
    refine held_cons rfl (λ K hK => ?_) AllReadyH.nil
    go_simp
    refine hK.out _ _ ?_ (λ hHeld2 => ?_)
    ·(try dsimp only)
     exact HKB.out _ HF.out.2.2.1
    clear hK K hHeld
    have hHeld:=hHeld2
    clear hHeld2
    (try simp only [Act.put,List.setIfInBounds_toArray,List.set_cons_zero,List.set_cons_succ])
    refine wpAnyH_ready (rs := [11]) (by kernel_rfl) (by simp) ?_
    refine held_cons rfl (λ K hK => ?_) AllReadyH.nil
    go_simp
    refine hK.out _ _ ?_ (λ hHeld2 => ?_)
    ·(try dsimp only)
     exact HKB.out _ HF.out.2.2.1
    clear hK K hHeld
    have hHeld:=hHeld2
    clear hHeld2
    (try simp only [Act.put,List.setIfInBounds_toArray,List.set_cons_zero,List.set_cons_succ])
    refine wpAnyH_done (by kernel_rfl) ?_ _
    clear hHeld i0 i1 if0 if1 pc0 pc1 pc2 pf0 pf1 pf2 i0d i1d if0d if1d pc0d pc1d pc2d pf0d pf1d pf2d
    have i0:=HF.out.2.2.2.1.cell (i:=0) rfl
    have i1:=HF.out.2.2.2.1.cell (i:=1) rfl
    have pc0:=HF.out.2.2.2.2.cell (i:=0) rfl
    have pc1:=HF.out.2.2.2.2.cell (i:=1) rfl
    have pc2:=HF.out.2.2.2.2.cell (i:=2) rfl
    go_wp2_with fail
    refine bodyPost_ret (v := .tuple #[.agg #[.slice none 0 0,.slice none 0 0],.agg #[.int .i64 q1_6,.int .i64 q2_6,.int .i64 q3_6],.int .i64 e_6]) (by simp [results,Try.results8,go_sem,i0,i1,pc0,pc1,pc2]) rfl ?_
    have hbel:=Below.trans (((((HZ.out.bel.setCell (show w.heap.size≤(⟨w.heap.size+1,0,none⟩:Addr).block from HZ.out.ge.2.1) (.slice none 0 0)).setCell (show w.heap.size≤(⟨w.heap.size+1,1,none⟩:Addr).block from HZ.out.ge.2.1) (.slice none 0 0)).setCell (show w.heap.size≤(⟨w.heap.size+1+1,0,none⟩:Addr).block from HZ.out.ge.2.2) (.int .i64 q1_6)).setCell (show w.heap.size≤(⟨w.heap.size+1+1,1,none⟩:Addr).block from HZ.out.ge.2.2) (.int .i64 q2_6)).setCell (show w.heap.size≤(⟨w.heap.size+1+1,2,none⟩:Addr).block from HZ.out.ge.2.2) (.int .i64 q3_6)) (Below.refl _ _).drew
    have hne0:e_6≠0:=by have:=HEz.out;simpa using this
    refine ⟨e_6,q1_6,q2_6,q3_6,_,_,rfl,hbel,⟨λ h0=>absurd h0 hne0,λ hall=>absurd (HZ.out.ec.2 ?_) hne0⟩,λ _=>⟨rfl,rfl⟩,λ h0=>absurd h0 hne0⟩
    obtain ⟨k1,k2,k3,k4,k5,k6,k7⟩:=hall
    rw [HC3.out]
    exact ⟨⟨⟨⟨⟨trivial,k1⟩,k2⟩,k3⟩,k4⟩,k5⟩
   case true =>
    have he6:e_6=0:=by have:=HEz.out;simpa using this
    have HE6:=Lib.hid he6
    clear he6
    go_wp2_with fail
    refine (order_any HZ.out.an).mono ?_;rintro en v7 ⟨out,ov,dn,rfl,hown7,hk7,hord7⟩
    have hsz6:=HZ.out.bel.size
    have hab6:=HZ.out.an.an.lt
    have HB6:Hid (w.heap.size+1<v6.heap.size∧w.heap.size+1+1<v6.heap.size):=Lib.hid ⟨HZ.out.bI.lt,HZ.out.bP.lt⟩
    obtain ⟨q1_7,q2_7,q3_7,e_7,hz7⟩:=HZ.out.step hk7
    have hr7:=hk7.roa (λ _ h=>h) HR3.out
    clear HR3
    have HR3:=Lib.hid hr7
    have ho7:ROA (λ b=>v6.heap.size≤b) v7 ov 1 out.length (natInts out):=own_roa hown7
    clear HZ
    have HZ:=Lib.hid hz7
    obtain ⟨ovp,ovc,hovf⟩:=ownsRow_form hown7
    subst hovf
    clear a13
    have HO:=Lib.hid (And.intro ho7 (And.intro hord7 (And.intro hsz6 hab6)))
    clear hz7 hr7 hk7 hown7 ho7 hord7 hsz6 hab6
    go_wp2_with fail
    refine (starts_any HZ.out.an HR3.out HD.out.2.2.2.2.1).mono ?_;rintro en v8 ⟨rfl,hk8⟩
    obtain ⟨q1_8,q2_8,q3_8,e_8,hz8⟩:=HZ.out.step hk8
    have hr8:=hk8.roa (λ _ h=>h) HR3.out
    have ho8:=hk8.roa (λ b hb=>by have hb2:v6.heap.size≤b:=hb;have:=HO.out.2.2.2;omega) HO.out.1
    clear HZ HR3
    have HZ:=Lib.hid hz8
    have HR3:=Lib.hid (And.intro hr8 ho8)
    clear hz8 hr8 hk8 ho8
    have a13:=HZ.out.an.an.cell (i:=13) rfl
    (try dsimp only at a13)
    obtain ⟨ey,hey⟩:∃ z,(e_8 == 0)=z:=⟨_,rfl⟩
    have heyn:(e_8 != 0) = !ey:=by rw [←hey];rfl
    have HEy:=Lib.hid hey
    cases ey
    case false =>
     go_upto_region 19 with fail
     have HKB:Hid (∀ W:World,Blk W (w.heap.size+1+1+1) 103 (((⟨sp,sc,lp,ln,lc,ip,ic,op,on,oc,pp,cp,qp,qn,qc,tp,tc,rp,rc,vp,vc⟩:AX).h l.length il.length ps.length sts.length (.slice (some ⟨rb,0,none⟩) l.length l.length)).cells q1_8 q2_8 q3_8 e_8)→(λ W=>W.cell? ⟨w.heap.size+1+1+1,10,none⟩=some (.int .i64 q1_8)∧W.cell? ⟨w.heap.size+1+1+1,11,none⟩=some (.int .i64 q2_8)∧W.cell? ⟨w.heap.size+1+1+1,12,none⟩=some (.int .i64 q3_8)∧W.cell? ⟨w.heap.size+1+1+1,13,none⟩=some (.int .i64 e_8)) W):=Lib.hid λ W hb=>⟨hb.cell (i:=10) rfl,hb.cell (i:=11) rfl,hb.cell (i:=12) rfl,hb.cell (i:=13) rfl⟩
     have han:=HZ.out.an.an
     have hbi:=HZ.out.bI
     have hbp:=HZ.out.bP
     have hne1:=HZ.out.ne.1
     have hne2:=HZ.out.ne.2
     have hb3:w.heap.size+1≠w.heap.size+1+1:=by omega
     have ha1:=(han.other (a:=⟨w.heap.size+1,0,none⟩) (.slice none 0 0) (Ne.symm hne1)).other (a:=⟨w.heap.size+1,1,none⟩) (.slice none 0 0) (Ne.symm hne1)
     have ha2:=((ha1.other (a:=⟨w.heap.size+1+1,0,none⟩) (.int .i64 q1_8) (Ne.symm hne2)).other (a:=⟨w.heap.size+1+1,1,none⟩) (.int .i64 q2_8) (Ne.symm hne2)).other (a:=⟨w.heap.size+1+1,2,none⟩) (.int .i64 q3_8) (Ne.symm hne2)
     have hi2:=((((hbi.set 0 (.slice none 0 0)).set 1 (.slice none 0 0)).other (a:=⟨w.heap.size+1+1,0,none⟩) (.int .i64 q1_8) hb3).other (a:=⟨w.heap.size+1+1,1,none⟩) (.int .i64 q2_8) hb3).other (a:=⟨w.heap.size+1+1,2,none⟩) (.int .i64 q3_8) hb3
     have hp1:=(hbp.other (a:=⟨w.heap.size+1,0,none⟩) (.slice none 0 0) (Ne.symm hb3)).other (a:=⟨w.heap.size+1,1,none⟩) (.slice none 0 0) (Ne.symm hb3)
     have hp2:=((hp1.set 0 (.int .i64 q1_8)).set 1 (.int .i64 q2_8)).set 2 (.int .i64 q3_8)
     have i0:=hbi.cell (i:=0) rfl
     have if0:=hbi.frz 0
     have i1:=hbi.cell (i:=1) rfl
     have if1:=hbi.frz 1
     have pc0:=hp1.cell (i:=0) rfl
     have pf0:=hp1.frz 0
     have pc1:=hp1.cell (i:=1) rfl
     have pf1:=hp1.frz 1
     have pc2:=hp1.cell (i:=2) rfl
     have pf2:=hp1.frz 2
     have i0d:=hbi.drew.cell (i:=0) rfl
     have if0d:=hbi.drew.frz 0
     have i1d:=hbi.drew.cell (i:=1) rfl
     have if1d:=hbi.drew.frz 1
     have pc0d:=hp1.drew.cell (i:=0) rfl
     have pf0d:=hp1.drew.frz 0
     have pc1d:=hp1.drew.cell (i:=1) rfl
     have pf1d:=hp1.drew.frz 1
     have pc2d:=hp1.drew.cell (i:=2) rfl
     have pf2d:=hp1.drew.frz 2
     have HF:=Lib.hid (And.intro han.drew (And.intro ha1.drew (And.intro ha2.drew (And.intro hi2.drew hp2.drew))))
     clear han ha1 ha2 hi2 hp1 hp2 hbi hbp hne1 hne2 hb3 a13
     refine wp_region_held_drew (S:=(λ W=>W.cell? ⟨w.heap.size+1+1+1,10,none⟩=some (.int .i64 q1_8)∧W.cell? ⟨w.heap.size+1+1+1,11,none⟩=some (.int .i64 q2_8)∧W.cell? ⟨w.heap.size+1+1+1,12,none⟩=some (.int .i64 q3_8)∧W.cell? ⟨w.heap.size+1+1+1,13,none⟩=some (.int .i64 e_8))) (by kernel_rfl) ?_ (λ hHeld => ?_)
     ·exact HKB.out _ HF.out.1
     refine held_take (i:=0) (v := ?_) rfl (by kernel_rfl) (by kernel_rfl) (by kernel_rfl) (λ _ _ _ h=>h) (Or.inl ⟨by rfl,?_⟩) hHeld ?_
     rotate_left
     ·intro w hSw;(try dsimp only at hSw);go_simp;(try with_reducible rfl)
     (try simp only [Act.put,List.setIfInBounds_toArray,List.set_cons_zero,List.set_cons_succ])
     refine held_take (i:=1) (v := ?_) rfl (by kernel_rfl) (by kernel_rfl) (by kernel_rfl) (λ _ _ _ h=>h) (Or.inl ⟨by rfl,?_⟩) hHeld ?_
     rotate_left
     ·intro w hSw;(try dsimp only at hSw);go_simp;(try with_reducible rfl)
     (try simp only [Act.put,List.setIfInBounds_toArray,List.set_cons_zero,List.set_cons_succ])
     refine held_take (i:=2) (v := ?_) rfl (by kernel_rfl) (by kernel_rfl) (by kernel_rfl) (λ _ _ _ h=>h) (Or.inl ⟨by rfl,?_⟩) hHeld ?_
     rotate_left
     ·intro w hSw;(try dsimp only at hSw);go_simp;(try with_reducible rfl)
     (try simp only [Act.put,List.setIfInBounds_toArray,List.set_cons_zero,List.set_cons_succ])
     refine held_take (i:=3) (v := ?_) rfl (by kernel_rfl) (by kernel_rfl) (by kernel_rfl) (λ _ _ _ h=>h) (Or.inl ⟨by rfl,?_⟩) hHeld ?_
     rotate_left
     ·intro w hSw;(try dsimp only at hSw);go_simp;(try with_reducible rfl)
     (try simp only [Act.put,List.setIfInBounds_toArray,List.set_cons_zero,List.set_cons_succ])
     refine held_take (i:=4) (v := ?_) rfl (by kernel_rfl) (by kernel_rfl) (by kernel_rfl) (λ _ _ _ h=>h) (Or.inl ⟨by rfl,?_⟩) hHeld ?_
     rotate_left
     ·intro w hSw;(try dsimp only at hSw);go_simp;(try with_reducible rfl)
     (try simp only [Act.put,List.setIfInBounds_toArray,List.set_cons_zero,List.set_cons_succ])
     refine held_take (i:=5) (v := ?_) rfl (by kernel_rfl) (by kernel_rfl) (by kernel_rfl) (λ _ _ _ h=>h) (Or.inl ⟨by rfl,?_⟩) hHeld ?_
     rotate_left
     ·intro w hSw;(try dsimp only at hSw);go_simp;(try with_reducible rfl)
     (try simp only [Act.put,List.setIfInBounds_toArray,List.set_cons_zero,List.set_cons_succ])
     refine held_take (i:=6) (v := ?_) rfl (by kernel_rfl) (by kernel_rfl) (by kernel_rfl) (λ _ _ _ h=>h) (Or.inl ⟨by rfl,?_⟩) hHeld ?_
     rotate_left
     ·intro w hSw;(try dsimp only at hSw);go_simp;(try with_reducible rfl)
     (try simp only [Act.put,List.setIfInBounds_toArray,List.set_cons_zero,List.set_cons_succ])
     refine held_take (i:=7) (v := ?_) rfl (by kernel_rfl) (by kernel_rfl) (by kernel_rfl) (λ _ _ _ h=>h) (Or.inl ⟨by rfl,?_⟩) hHeld ?_
     rotate_left
     ·intro w hSw;(try dsimp only at hSw);go_simp;(try with_reducible rfl)
     (try simp only [Act.put,List.setIfInBounds_toArray,List.set_cons_zero,List.set_cons_succ])
     refine held_take (i:=8) (v := ?_) rfl (by kernel_rfl) (by kernel_rfl) (by kernel_rfl) (λ _ _ _ h=>h) (Or.inl ⟨by rfl,?_⟩) hHeld ?_
     rotate_left
     ·intro w hSw;(try dsimp only at hSw);go_simp;(try with_reducible rfl)
     (try simp only [Act.put,List.setIfInBounds_toArray,List.set_cons_zero,List.set_cons_succ])
     refine wpAnyH_ready (rs := [9]) (by kernel_rfl) (by simp) ?_
     refine held_cons rfl (λ K hK => ?_) AllReadyH.nil
     go_simp
     refine hK.out _ _ ?_ (λ hHeld2 => ?_)
     ·(try dsimp only)
      exact HKB.out _ HF.out.2.1
     clear hK K hHeld
     have hHeld:=hHeld2
     clear hHeld2
     (try simp only [Act.put,List.setIfInBounds_toArray,List.set_cons_zero,List.set_cons_succ])
     refine wpAnyH_ready (rs := [10]) (by kernel_rfl) (by simp) ?_
     refine held_cons rfl (λ K hK => ?_) AllReadyH.nil
     go_simp
     refine hK.out _ _ ?_ (λ hHeld2 => ?_)
     ·(try dsimp only)
      exact HKB.out _ HF.out.2.2.1
     clear hK K hHeld
     have hHeld:=hHeld2
     clear hHeld2
     (try simp only [Act.put,List.setIfInBounds_toArray,List.set_cons_zero,List.set_cons_succ])
     refine wpAnyH_ready (rs := [11]) (by kernel_rfl) (by simp) ?_
     refine held_cons rfl (λ K hK => ?_) AllReadyH.nil
     go_simp
     refine hK.out _ _ ?_ (λ hHeld2 => ?_)
     ·(try dsimp only)
      exact HKB.out _ HF.out.2.2.1
     clear hK K hHeld
     have hHeld:=hHeld2
     clear hHeld2
     (try simp only [Act.put,List.setIfInBounds_toArray,List.set_cons_zero,List.set_cons_succ])
     refine wpAnyH_done (by kernel_rfl) ?_ _
     clear hHeld i0 i1 if0 if1 pc0 pc1 pc2 pf0 pf1 pf2 i0d i1d if0d if1d pc0d pc1d pc2d pf0d pf1d pf2d
     have i0:=HF.out.2.2.2.1.cell (i:=0) rfl
     have i1:=HF.out.2.2.2.1.cell (i:=1) rfl
     have pc0:=HF.out.2.2.2.2.cell (i:=0) rfl
     have pc1:=HF.out.2.2.2.2.cell (i:=1) rfl
     have pc2:=HF.out.2.2.2.2.cell (i:=2) rfl
     go_wp2_with fail
     refine bodyPost_ret (v := .tuple #[.agg #[.slice none 0 0,.slice none 0 0],.agg #[.int .i64 q1_8,.int .i64 q2_8,.int .i64 q3_8],.int .i64 e_8]) (by simp [results,Try.results8,go_sem,i0,i1,pc0,pc1,pc2]) rfl ?_
     have hbel:=Below.trans (((((HZ.out.bel.setCell (show w.heap.size≤(⟨w.heap.size+1,0,none⟩:Addr).block from HZ.out.ge.2.1) (.slice none 0 0)).setCell (show w.heap.size≤(⟨w.heap.size+1,1,none⟩:Addr).block from HZ.out.ge.2.1) (.slice none 0 0)).setCell (show w.heap.size≤(⟨w.heap.size+1+1,0,none⟩:Addr).block from HZ.out.ge.2.2) (.int .i64 q1_8)).setCell (show w.heap.size≤(⟨w.heap.size+1+1,1,none⟩:Addr).block from HZ.out.ge.2.2) (.int .i64 q2_8)).setCell (show w.heap.size≤(⟨w.heap.size+1+1,2,none⟩:Addr).block from HZ.out.ge.2.2) (.int .i64 q3_8)) (Below.refl _ _).drew
     have hne0:e_8≠0:=by have:=HEy.out;simpa using this
     refine ⟨e_8,q1_8,q2_8,q3_8,_,_,rfl,hbel,⟨λ h0=>absurd h0 hne0,λ hall=>absurd (HZ.out.ec.2 ?_) hne0⟩,λ _=>⟨rfl,rfl⟩,λ h0=>absurd h0 hne0⟩
     obtain ⟨k1,k2,k3,k4,k5,k6,k7⟩:=hall
     rw [HC3.out]
     exact ⟨⟨⟨⟨⟨⟨⟨trivial,k1⟩,k2⟩,k3⟩,k4⟩,k5⟩,k6⟩,k7⟩
    case true =>
     have he8:e_8=0:=by have:=HEy.out;simpa using this
     have hall:=HZ.out.ec.1 he8
     rw [HC3.out] at hall
     obtain ⟨⟨⟨⟨⟨⟨⟨_,k1⟩,k2⟩,k3⟩,k4⟩,k5⟩,k6⟩,k7⟩:=hall
     have HAll:=Lib.hid (show AllC l ps il sts from ⟨k1,k2,k3,k4,k5,k6,k7⟩)
     have HOrd:=Lib.hid (HO.out.2.1 HE6.out k6)
     clear k1 k2 k3 k4 k5 k6 k7 he8
     have a7:=HZ.out.an.an.cell (i:=7) rfl
     (try dsimp only at a7)
     have hbi:=HZ.out.bI
     have hbp:=HZ.out.bP
     have hb3:w.heap.size+1≠w.heap.size+1+1:=by omega
     have hi1:=(hbi.set 0 (.slice (some ⟨rb,0,none⟩) l.length l.length)).set 1 (.slice ovp out.length ovc)
     have hi2:=((hi1.other (a:=⟨w.heap.size+1+1,0,none⟩) (.int .i64 0) hb3).other (a:=⟨w.heap.size+1+1,1,none⟩) (.int .i64 0) hb3).other (a:=⟨w.heap.size+1+1,2,none⟩) (.int .i64 0) hb3
     have hp1:=(hbp.other (a:=⟨w.heap.size+1,0,none⟩) (.slice (some ⟨rb,0,none⟩) l.length l.length) (Ne.symm hb3)).other (a:=⟨w.heap.size+1,1,none⟩) (.slice ovp out.length ovc) (Ne.symm hb3)
     have hp2:=((hp1.set 0 (.int .i64 0)).set 1 (.int .i64 0)).set 2 (.int .i64 0)
     have i0:=hbi.cell (i:=0) rfl
     have i1:=hbi.cell (i:=1) rfl
     have if0:=hbi.frz 0
     have if1:=hbi.frz 1
     have pc0:=hp1.cell (i:=0) rfl
     have pc1:=hp1.cell (i:=1) rfl
     have pc2:=hp1.cell (i:=2) rfl
     have pf0:=hp1.frz 0
     have pf1:=hp1.frz 1
     have pf2:=hp1.frz 2
     have HF:=Lib.hid (And.intro hi2 hp2)
     clear hi1 hi2 hp1 hp2 hbi hbp
     go_wp2_with fail
     have j0:=HF.out.1.cell (i:=0) rfl
     have j1:=HF.out.1.cell (i:=1) rfl
     have r0:=HF.out.2.cell (i:=0) rfl
     have r1:=HF.out.2.cell (i:=1) rfl
     have r2:=HF.out.2.cell (i:=2) rfl
     refine bodyPost_ret (v := .tuple #[.agg #[.slice (some ⟨rb,0,none⟩) l.length l.length,.slice ovp out.length ovc],.agg #[.int .i64 0,.int .i64 0,.int .i64 0],.int .i64 0]) (by simp [results,Try.results8,go_sem,j0,j1,r0,r1,r2]) rfl ?_
     have hbel:=((((HZ.out.bel.setCell (show w.heap.size≤(⟨w.heap.size+1,0,none⟩:Addr).block from HZ.out.ge.2.1) (.slice (some ⟨rb,0,none⟩) l.length l.length)).setCell (show w.heap.size≤(⟨w.heap.size+1,1,none⟩:Addr).block from HZ.out.ge.2.1) (.slice ovp out.length ovc)).setCell (show w.heap.size≤(⟨w.heap.size+1+1,0,none⟩:Addr).block from HZ.out.ge.2.2) (.int .i64 0)).setCell (show w.heap.size≤(⟨w.heap.size+1+1,1,none⟩:Addr).block from HZ.out.ge.2.2) (.int .i64 0)).setCell (show w.heap.size≤(⟨w.heap.size+1+1,2,none⟩:Addr).block from HZ.out.ge.2.2) (.int .i64 0)
     refine ⟨0,0,0,0,_,_,rfl,hbel,⟨λ _=>HAll.out,λ _=>rfl⟩,λ h0=>absurd rfl h0,λ _=>⟨out,dn,?_,?_,HOrd.out⟩⟩
     ·refine HR3.out.1.reA HRb.out.1 ?_
      have h1:=HRb.out.2.1
      have h2:=HRb.out.2.2
      exact ((Below.heap_setCell _ _ _ _ h2).trans ((Below.heap_setCell _ _ _ _ h2).trans ((Below.heap_setCell _ _ _ _ h2).trans ((Below.heap_setCell _ _ _ _ h1).trans (Below.heap_setCell _ _ _ _ h1)))))
     ·refine HR3.out.2.turn λ k hk hlt=>⟨by have hk2:v6.heap.size≤k:=hk;have:=HO.out.2.2.1;omega,?_⟩
      have hk2:v6.heap.size≤k:=hk
      have h1:k≠w.heap.size+1:=by have:=HB6.out.1;omega
      have h2:k≠w.heap.size+1+1:=by have:=HB6.out.2;omega
      exact ((Below.heap_setCell _ _ _ _ h2).trans ((Below.heap_setCell _ _ _ _ h2).trans ((Below.heap_setCell _ _ _ _ h2).trans ((Below.heap_setCell _ _ _ _ h1).trans (Below.heap_setCell _ _ _ _ h1)))))
end Go.Proofs.Ytlklleaocbnbcaa
