import Derived.Test.YtlklleaocbnbcaaZ15
import Derived.Deep.MidRow
namespace Go.Proofs.Ytlklleaocbnbcaa.L
set_option linter.unusedVariables false
open Go.RowKit
end Go.Proofs.Ytlklleaocbnbcaa.L
namespace Go.Proofs.Ytlklleaocbnbcaa.L
set_option linter.unusedVariables false
open Go.RowKit
end Go.Proofs.Ytlklleaocbnbcaa.L
namespace Go.Proofs.Ytlklleaocbnbcaa.L
set_option linter.unusedVariables false
open Go.RowKit
end Go.Proofs.Ytlklleaocbnbcaa.L
namespace Go.Proofs.Ytlklleaocbnbcaa.L
set_option linter.unusedVariables false
open Go.RowKit
def Far (w:World) (v:Value):Prop:=∀ k p m c b o,v = .agg #[k,.slice p m c]→p=some ⟨b,o,none⟩→w.heap.size≤b
theorem Far.vec {w:World} {k:Value} {b m c:Nat} (hb:w.heap.size≤b):Far w (.agg #[k,.slice (some ⟨b,0,none⟩) m c]):=λ _ _ _ _ _ _ e h=>by
 simp only [Value.agg.injEq,Array.mk.injEq,List.cons.injEq,Value.slice.injEq] at e
 rw [←e.2.1.1] at h
 simp only [Option.some.injEq,Addr.mk.injEq] at h
 omega
def RetE (w:World) (n x:Nat) (err:Int) (e:Ending) (w':World):Prop:=∃ v,e = .returned (.tuple #[v,.int .i64 err])∧VR w' v n x∧Below w.heap.size w w'∧Far w v
set_option maxRecDepth 100000 in
set_option maxHeartbeats 4000000 in
theorem of_good {w:World} {vl:Value} {l:List Bool} (hl:RO w vl 1 l.length (bools l)) (h1:1≤l.length) (h2:l.length≤128):Calls Try.prog 39 #[vl] w (RetE w l.length (valB l) 0):=by
 obtain ⟨pl,cl,rfl⟩:=hl.form
 have HL:=Lib.hid hl
 obtain ⟨n,hn⟩:∃ n,l.length=n:=⟨_,rfl⟩
 have HV:Hid (valB l=ofB (λ i=>l.getD i false) n):=Lib.hid (by rw [←hn];rfl)
 rw [hn] at h1 h2 hl HL ⊢
 have hni:(n:Int)≤128:=by omega
 have hni1:(1:Int)≤n:=by omega
 have HBl:=Lib.hid (λ w=>blank_any (w:=w) n h2)
 have HG:Hid (∀ w,Calls Try.prog 60 #[.int .i64 n] w λ e w'=>e = .returned (.bool true)∧w=w'):=Lib.hid λ w=>by
  have:=good_any n w
  rwa [show (decide ((1:Int)≤n) && decide ((n:Int)≤128))=true by simp;omega] at this
 have HN:=Lib.hid hn
 clear hl h1 h2 hn
 go_enter Try.func39,Try.ntmps39
 go_wp2_with fail
 refine (HG.out _).mono ?_;rintro e w' ⟨rfl,rfl⟩
 go_wp2_with fail
 have k2:=Blk.new (w:=w) 60 [.int .i64 0,.slice none 0 0]
 have hb3:=Below.new w (.cells #[.int .i64 0,.slice none 0 0] 60)
 generalize w.alloc (.cells #[.int .i64 0,.slice none 0 0] 60)=W at *
 have HK:=Lib.hid (And.intro k2 hb3)
 clear k2 hb3
 refine (HBl.out _).mono ?_;rintro e w1 ⟨v,b,rfl,hV,hge,hb1⟩
 obtain rfl:=hV.e
 have hS:=Bld.start (w:=w) (bs := [(w.heap.size, [.int .i64 0,.slice none 0 0])]) (by
  intro p hp
  simp only [List.mem_cons,List.not_mem_nil,or_false] at hp
  subst hp
  exact HK.out.1) HK.out.2 hb1 hV hge
 have hS2:=Lib.hid (hS.push [.int .i64 n,.slice (some ⟨b,0,none⟩) (wcount n) (wcount n)])
 clear hV hb1 hS hge
 go_wp2_with fail
 generalize w1.alloc (.cells #[.int .i64 n,.slice (some ⟨b,0,none⟩) (wcount n) (wcount n)] 60)=w2 at *
 generalize w1.heap.size=L at *
 go_loopw [17] (λ i wr=>∃ k:Nat,k≤n∧i = .int .i64 k∧Bld w [(L, [.int .i64 n,.slice (some ⟨b,0,none⟩) (wcount n) (wcount n)]),(w.heap.size, [.int .i64 0,.slice none 0 0])] n (ofB (λ i=>l.getD i false) k) b wr) (λ i _=>n-(intOf i).toNat)
 case atStart=>exact ⟨0,Nat.zero_le _,rfl,hS2.out⟩
 case round =>
  obtain ⟨k,hk,rfl,hX⟩:=hrel
  have HX:=Lib.hid hX
  have y0:=(hX.box (p:=(L, [.int .i64 n,.slice (some ⟨b,0,none⟩) (wcount n) (wcount n)])) (by simp)).cell (i:=0) rfl
  have y1:=(hX.box (p:=(L, [.int .i64 n,.slice (some ⟨b,0,none⟩) (wcount n) (wcount n)])) (by simp)).cell (i:=1) rfl
  dsimp only at y0 y1
  by_cases hlt:k<n
  ·have hki:(k:Int)<n:=by omega
   have hro:=HL.out.below hX.bel
   have hkl:k<l.length:=by rw [HN.out];exact hlt
   obtain ⟨bl,ol,rfl⟩:=hro.sl (bools_at l k hkl)
   have f0:=hro.cell (bools_at l k hkl)
   have HST:=Lib.hid (setB_ofB (λ i=>l.getD i false) k)
   have HSet:=set_any hX.vo k (l.getD k false) hlt
   generalize l.getD k false=q at *
   have HSet:=Lib.hid HSet
   clear hX hro hkl
   go_wp2_with fail
   refine HSet.out.mono ?_;rintro e w6 ⟨rfl,hv6,hg6⟩
   have H6:=Lib.hid (HX.out.grown hg6 hv6)
   clear hv6 hg6
   go_wp2_with fail
   go_roundw
   case rel=>exact ⟨k+1,by omega,by go_num,by rw [←HST.out];exact H6.out⟩
   case measure=>simp [intOf];omega
  ·obtain rfl:k=n:=by omega
   have kr:=hX.box (p:=(w.heap.size, [.int .i64 0,.slice none 0 0])) (by simp)
   have r0:=kr.cell (i:=0) rfl
   have r1:=kr.cell (i:=1) rfl
   have f0:=kr.frz 0
   have f1:=kr.frz 1
   dsimp only at r0 r1 f0 f1
   clear hX kr hlt
   go_wp2_with fail
   obtain ⟨e0,e1,hv,hbl⟩:=HX.out.ret (R:=w.heap.size) (u := .int .i64 0) (v := .slice none 0 0) (by simp) (Nat.le_refl _)
   exact bodyPost_ret (v := .tuple #[vecO k b,.int .i64 0]) (by simp [results,Try.results39,go_sem,e0,e1,vecO]) rfl ⟨_,rfl,by rw [HV.out];exact hv.vr (ofB_lt _ _),hbl,Far.vec HX.out.ge⟩
end Go.Proofs.Ytlklleaocbnbcaa.L
namespace Go.Proofs.Ytlklleaocbnbcaa
set_option linter.unusedVariables false
open Go.RowKit Go.Sort
def OwnR (w:World) (n:Nat) (e:Ending) (w':World):Prop:=∃ p k c,e = .returned (.agg #[.int .i64 n,.slice p k c])∧Below w.heap.size w w'
set_option maxRecDepth 100000 in
set_option maxHeartbeats 1000000 in
theorem own_any {A:Nat→Prop} {w:World} {vl:Value} {l:List Bool} (hl:ROA A w vl 1 l.length (bools l)) (h1:1≤l.length) (h2:l.length≤128):Calls Try.prog 21 #[vl] w (OwnR w l.length):=by
 have HO:Hid (∀ w',Below w.heap.size w w'→Calls Try.prog 39 #[vl] w' (L.RetE w' l.length (L.valB l) 0)):=Lib.hid λ w' hb=>L.of_good (hl.ro.below hb) h1 h2
 obtain ⟨n,hn⟩:∃ n,l.length=n:=⟨_,rfl⟩
 rw [hn] at HO ⊢
 have k2:=Blk.new (w:=w) 60 [.int .i64 0,.slice none 0 0]
 have hb3:=Below.new w (.cells #[.int .i64 0,.slice none 0 0] 60)
 have HK:=Lib.hid (And.intro k2 hb3)
 clear hl h1 h2 hn k2 hb3
 go_enter Try.func21,Try.ntmps21
 go_wp2_with fail
 change Hid (Blk (w.alloc (.cells #[.int .i64 0,.slice none 0 0] 60)) w.heap.size 60 [.int .i64 0,.slice none 0 0]∧_) at HK
 generalize w.alloc (.cells #[.int .i64 0,.slice none 0 0] 60)=W at *
 refine (HO.out _ HK.out.2).mono ?_;rintro e w1 ⟨v,rfl,hv,hb,hf⟩
 obtain ⟨p,c,rfl,_⟩:=hv.ex
 have HB:=Lib.hid (Below.next HK.out.2 hb)
 have HK1:=Lib.hid (HK.out.1.next hb)
 have r0:=λ o=>(HK1.out.next (Below.new w1 o)).cell (i:=0) rfl
 have r1:=λ o=>(HK1.out.next (Below.new w1 o)).cell (i:=1) rfl
 have f0:=λ o=>(HK1.out.next (Below.new w1 o)).frz 0
 have f1:=λ o=>(HK1.out.next (Below.new w1 o)).frz 1
 clear hv hb hf
 generalize L.wcount n=k at *
 go_wp2_with fail
 have HK2:=(((HK1.out.next (Below.new w1 (.cells #[.int .i64 n,.slice p k c] 60))).set 0 (.int .i64 n)).set 1 (.slice p k c))
 have e0:=HK2.cell (i:=0) rfl
 have e1:=HK2.cell (i:=1) rfl
 exact bodyPost_ret (v := .agg #[.int .i64 n,.slice p k c]) (by simp [results,Try.results21,go_sem,e0,e1]) rfl ⟨_,_,_,rfl,((Below.next HB.out (Below.new _ _)).setCell (Nat.le_refl _) _).setCell (Nat.le_refl _) _⟩
theorem width_any {w:World} {n:Nat} {p:Option Addr} {k c:Nat}:Calls Try.prog 57 #[.agg #[.int .i64 n,.slice p k c]] w λ e w'=>e = .returned (.int .i64 n)∧Below w.heap.size w w':=by
 go_enter Try.func57,Try.ntmps57
 go_wp2_with fail
 go_ret
 exact ⟨rfl,Below.new _ _⟩
open Go.RowKit
theorem web_coreR {P:Program} {ops:List Oper} {Q:Exit→Act→World→Prop} {a0:Act} {w0:World} {sp:List Sp} {es:List Nat} {base:List (Nat × Nat × List Value)} {size k:Nat} {l1:Array Bool}
  (hchk:webBR ops.toArray es size=true) (hlen:es.length=sp.length) (hsz:size≤a0.tmps.size) (hl:((List.range ops.length).map (earlyB es)).toArray=l1) (hmono:MonoAll sp)
  {A:(Nat→Value)→Act} (hA:∀ u,fillL (earlyB es) ops sp u 0 a0=A u) (hQ:∀ c a (d:Tmp) v w,Q (.panic c) (a.put (some d) v) w→Q (.panic c) a w) (hob:∀ i,earlyB es i=true→freeB es i=false→WebOb P ops.toArray w0 base sp A i) (hpu:∀ i,freeB es i=true→WebPure P ops.toArray w0 base sp A i)
  (hend:∀ u w',Tr w0 (ownsL (earlyB es) sp u 0++base) w'→okAll (earlyB es) sp u 0 w'→wpAny P .any ops.toArray Q k l1 (A u) w') :
  ∀ (fuel:Nat) (listed:Array Bool) (u:Nat→Value) (w:World) (todo:List Nat),listed.size=ops.length→(∀ j,earlyB es j=false→listed.getD j false=false) →
   (∀ j o,ops[j]? = some o→listed.getD j false=true→∀ i,depB o i=true→listed.getD i false=true)→(∀ j,earlyB es j=true→listed.getD j false=false→j∈todo)→todo.length+k≤fuel →
   Tr w0 (ownsL (λ j=>listed.getD j false) sp u 0++base) w→(∀ j,listed.getD j false=true→okAt sp j (u j) w) →
   wpAny P .any ops.toArray Q fuel listed (fillL (λ j=>listed.getD j false) ops sp u 0 a0) w:=by
 simp only [webBR,Bool.and_eq_true,decide_eq_true_eq,List.all_eq_true,List.mem_range,List.size_toArray] at hchk
 obtain ⟨⟨hsel,hn1⟩,hops⟩:=hchk
 have hops':∀ i o,ops[i]? = some o→webOpR ops.toArray es size i o=true:=λ i o ho=>by
  have:=hops i (List.getElem?_eq_some_iff.1 ho).1
  simpa [ho] using this
 have hein:∀ j,earlyB es j=true→j<sp.length:=λ j hj=>by
  have:=mem_early.2 hj
  unfold early at this
  rw [List.mem_filter,List.mem_range] at this
  omega
 have hdone:∀ (fuel:Nat) (listed:Array Bool) (u:Nat→Value) (w:World),k≤fuel→listed.size=ops.length→(∀ j,earlyB es j=false→listed.getD j false=false)→(∀ j,earlyB es j=true→listed.getD j false=true) →
   Tr w0 (ownsL (λ j=>listed.getD j false) sp u 0++base) w→(∀ j,listed.getD j false=true→okAt sp j (u j) w) →
   wpAny P .any ops.toArray Q fuel listed (fillL (λ j=>listed.getD j false) ops sp u 0 a0) w:=by
  intro fuel listed u w hf hls hhi hall hT hok
  have hle:∀ j,listed.getD j false=earlyB es j:=λ j=>by
   cases h:earlyB es j with
   | true=>exact hall j h
   | false=>exact hhi j h
  have hl1:listed=l1:=by
   rw [←hl]
   apply Array.ext
   ·simp [hls]
   ·intro i h1 h2
    have:=hle i
    rw [Array.getD_eq_getD_getElem?,Array.getElem?_eq_getElem h1] at this
    simpa using this
  rw [fill_congr (l:=λ j=>listed.getD j false) (l':=earlyB es) (u:=u) (u':=u) ops sp 0 a0 (λ q _=>hle q) (λ _ _=>rfl),hA]
  rw [owns_congr (l:=λ j=>listed.getD j false) (l':=earlyB es) (u:=u) (u':=u) sp 0 (λ q _=>hle q) (λ _ _=>rfl)] at hT
  have:=hend u w hT (okAll_of sp 0 λ q _ he=>by rw [Nat.zero_add] at he ⊢;exact hok q (hall q he))
  rw [hl1];exact wpAny_le hf this
 intro fuel
 induction fuel with
 | zero =>
  intro listed u w todo hls hhi hcl htodo hf hT hok
  have ht:todo = []:=List.eq_nil_of_length_eq_zero (by omega)
  refine hdone 0 listed u w (by omega) hls hhi (λ j hj => ?_) hT hok
  cases h:listed.getD j false with
  | true=>rfl
  | false=>have:=htodo j hj h;rw [ht] at this;cases this
 | succ fuel ih =>
  intro listed u w todo hls hhi hcl htodo hf hT hok
  by_cases hall:∀ j,earlyB es j=true→listed.getD j false=true
  ·exact hdone _ listed u w (by omega) hls hhi hall hT hok
  ·have hex:∃ j,earlyB es j=true∧listed.getD j false=false:=by
    apply Classical.byContradiction
    intro hno
    exact hall λ j hj=>by
     cases h:listed.getD j false with
     | true=>rfl
     | false=>exact (hno ⟨j,hj,h⟩).elim
   obtain ⟨j0,hj0,hun0⟩:=hex
   have hfe:∀ j,freeB es j=true→earlyB es j=true:=λ j hj=>by
    have h1:es.getD j 0=2:=by simpa only [freeB,beq_iff_eq] using hj
    unfold earlyB;rw [h1];rfl
   have hle:∀ j,listed.getD j false=true→earlyB es j=true:=λ j hj=>by
    cases h:earlyB es j with
    | true=>rfl
    | false=>rw [hhi j h] at hj;cases hj
   have common:∀ i,i∈Region.ready .any ops.toArray listed→earlyB es i=true→∃ o d,ops[i]? = some o∧o.dst=some d∧(∀ j,depB o j=true→okAt sp j (u j) w)∧d<(A u).tmps.size ∧
     execOp (fillL (λ j=>listed.getD j false) ops sp u 0 a0).eval o=execOp (A u).eval o∧Region.wanted o (yielded ops.toArray (fillL (λ j=>listed.getD j false) ops sp u 0 a0).tmps)=Region.wanted o (yielded ops.toArray (A u).tmps) ∧
     (freeB es i=true→∀ j oj,ops.toArray[j]? = some oj→j≠i→listed.getD j true=false→depB oj i=false→o.apart ops.toArray oj=true) ∧
     (∀ v w',(Below w.heap.size w w'∧okAt sp i v w'∧(∀ p∈ownAt sp i v,Blk w' p.1 p.2.1 p.2.2∧w.heap.size≤p.1)∧((ownAt sp i v).map (·.1)).Nodup) →
      wpAny P .any ops.toArray Q fuel (listed.setIfInBounds i true) ((fillL (λ j=>listed.getD j false) ops sp u 0 a0).put o.dst v) w'):=by
    intro i hi hi1
    obtain ⟨hun,o,ho0,hdep⟩:=mem_ready.1 hi
    have ho:ops[i]? = some o:=by simpa using ho0
    obtain ⟨his,hunf⟩:=getD_tf hun
    have hw:=hops' i o ho
    have hdB:∀ q,depB o q=true→listed.getD q false=true:=λ q hq=>by
     obtain ⟨e,he,hb⟩:=Array.any_eq_true'.1 hq
     simp only [Bool.and_eq_true,beq_iff_eq] at hb
     rw [←hb.2];exact hdep e he hb.1
    have hi2:=hein i hi1
    simp only [webOpR,hi1,if_true,Bool.and_eq_true,Array.all_eq_true_iff_forall_mem,List.all_eq_true] at hw
    obtain ⟨⟨⟨⟨hedge,hdst⟩,hdist⟩,hlook⟩,hfr⟩:=hw
    obtain ⟨d,hd⟩:∃ d,o.dst=some d:=by
     cases hx:o.dst with
     | none=>simp [hx] at hdst
     | some d=>exact ⟨d,rfl⟩
    have hdsz:d<size:=by simpa [hd] using hdst
    have hLk:∀ t∈o.looksAt ops.toArray,(fillL (λ j=>listed.getD j false) ops sp u 0 a0).tmps[t]? = (A u).tmps[t]? := λ t ht=>by
     rw [←hA]
     refine fill_get ops sp 0 a0 a0 rfl rfl hle λ q o' ho' hq hd' => ?_
     rw [Nat.zero_add] at hq ⊢
     have h1:=hlook t ht q (mem_early.2 hq)
     simp only [List.getElem?_toArray,ho',Option.bind_some,hd',Bool.or_eq_true,bne_self_eq_false,Bool.false_eq_true,false_or] at h1
     exact hdB q h1
    obtain ⟨he,hwant⟩:=web_looks (Region.noSelect_spec hsel i o · · ho0) hLk
    have hbsz:d<(A u).tmps.size:=by rw [←hA,fill_size];exact Nat.lt_of_lt_of_le hdsz hsz
    refine ⟨o,d,ho,hd,λ j hj=>hok j (hdB j hj),hbsz,he,hwant,λ hf j oj hoj hne hju hnd => ?_,?_⟩
    ·rw [hf] at hfr
     simp only [Bool.not_true,Bool.false_or,List.all_eq_true,List.mem_range,List.size_toArray] at hfr
     have hj:ops[j]? = some oj:=by simpa using hoj
     have h1:=hfr j (List.getElem?_eq_some_iff.1 hj).1
     have hnj:depB o j=false:=by
      cases hx:depB o j with
      | false=>rfl
      | true=>have:=hdB j hx;rw [(getD_tf hju).2] at this;cases this
     simpa [hj,hne,hnd,hnj] using h1
    ·rintro v w' ⟨hb,hv,hown,hnd⟩
     obtain ⟨u',hu'⟩:∃ u':Nat→Value,u'=λ j=>if j=i then v else u j:=⟨_,rfl⟩
     have hui:u' i=v:=by rw [hu'];simp
     have huo:∀ q,q≠i→u' q=u q:=λ q hq=>by rw [hu'];simp [hq]
     have hfs:=fill_set (e:=earlyB es) (l:=λ j=>listed.getD j false) (l':=λ j=>(listed.setIfInBounds i true).getD j false) (u:=u) (u':=u') (d:=d) ops sp 0 i a0 o hi2 ho hd hle (λ k' o' hne hek ho'=>by
       rw [Nat.zero_add] at hek
       have h1:=hdist k' (mem_early.2 hek)
       simp only [List.getElem?_toArray,ho',Option.bind_some,Bool.or_eq_true,beq_iff_eq,hne,false_or,bne_iff_ne,hd] at h1
       exact h1) (by simpa using hunf) (by rw [Nat.zero_add,getD_set his];simp) (λ q hq=>by rw [Nat.zero_add] at hq;rw [getD_set his,if_neg hq]) (λ q hq=>huo q (by simpa using hq))
     rw [Nat.zero_add,hui,Sp.val_ok hv,←hd] at hfs
     rw [←hfs]
     have hmem:i∈todo:=htodo i hi1 hunf
     refine ih _ u' w' (todo.erase i) (by simpa using hls) (λ j hj => ?_) (λ j o' ho' hj q hq => ?_) (λ j hj hjl => ?_) ?_ ?_ (λ j hjl => ?_)
     ·rw [getD_set his,if_neg (λ e=>by rw [e,hi1] at hj;cases hj)];exact hhi j hj
     ·rw [getD_set his] at hj ⊢
      by_cases e:q=i
      ·rw [if_pos e]
      ·rw [if_neg e]
       by_cases e2:j=i
       ·subst e2
        rw [ho] at ho'
        obtain rfl:=Option.some.inj ho'
        exact hdB q hq
       ·rw [if_neg e2] at hj
        exact hcl j o' ho' hj q hq
     ·rw [getD_set his] at hjl
      by_cases e:j=i
      ·rw [if_pos e] at hjl;cases hjl
      ·rw [if_neg e] at hjl
       exact (List.mem_erase_of_ne e).2 (htodo j hj hjl)
     ·rw [List.length_erase_of_mem hmem]
      have:=List.length_pos_of_mem hmem
      omega
     ·have hp:=owns_set (l:=λ j=>listed.getD j false) (l':=λ j=>(listed.setIfInBounds i true).getD j false) (u:=u) (u':=u') sp 0 i hi2 (by simpa using hunf) (by rw [Nat.zero_add,getD_set his];simp) (λ q hq=>by rw [Nat.zero_add] at hq;rw [getD_set his,if_neg hq]) (λ q hq=>huo q (by simpa using hq))
      rw [Nat.zero_add,hui] at hp
      have h1:=hT.many hb hown hnd
      rw [←List.append_assoc] at h1
      exact h1.perm (List.Perm.append_right _ hp)
     ·rw [getD_set his] at hjl
      by_cases e:j=i
      ·subst e;rw [hui];exact hv
      ·rw [if_neg e] at hjl
       rw [huo j e]
       exact hmono.get j _ _ _ hb (hok j hjl)
   have hleast:∀ j0,earlyB es j0=true→listed.getD j0 false=false→∃ i,i≤j0∧earlyB es i=true∧i∈Region.ready .any ops.toArray listed∧(∀ j,j<i→¬(earlyB es j=true∧listed.getD j false=false)):=by
    intro j0 hj0 hun0
    obtain ⟨i,hij,⟨hi1,hi2⟩,hmin⟩:=least (p:=λ j=>earlyB es j=true∧listed.getD j false=false) j0 ⟨hj0,hun0⟩
    have hio:i<ops.length:=by have:=hein i hi1;omega
    have ho:ops[i]? = some ops[i]:=List.getElem?_eq_getElem hio
    have hw:=hops' i _ ho
    simp only [webOpR,hi1,if_true,Bool.and_eq_true,Array.all_eq_true_iff_forall_mem] at hw
    exact ⟨i,hij,hi1,mem_ready.2 ⟨getD_ft (by omega) hi2,ops[i],by simp,λ e he hb=>by
     have h1:=hw.1.1.1.1 e he
     rw [hb] at h1
     have h2:e.on<i∧earlyB es e.on=true:=by simpa using h1
     cases h:listed.getD e.on false with
     | true=>rfl
     | false=>exact (hmin e.on h2.1 ⟨h2.2,h⟩).elim⟩,hmin⟩
   by_cases hpr:∃ i,i∈Region.ready .any ops.toArray listed∧freeB es i=true
   ·obtain ⟨i,hi,hf⟩:=hpr
    obtain ⟨o,d,ho,hd,hdk,hbsz,he,hwant,hap,next⟩:=common i hi (hfe i hf)
    obtain ⟨v,hy,hv,hown⟩:=hpu i hf o (by simpa using ho) u w hT.base hdk
    refine wpAny_first (i:=i) (oi:=o) (v:=v) (by simpa using ho) (Region.noSelect_spec hsel) (λ c a w h=>by rw [hd] at h;exact hQ c a _ _ w h) fuel listed _ w (λ j oj hoj hne hju hno=>hap hf j oj hoj hne hju ?_) hi (hy.of_same he hwant)
     (next v w ⟨Below.refl _ _,hv,by rw [hown];exact λ p hp=>(by cases hp),by rw [hown];exact List.nodup_nil⟩)
    cases hx:depB oj i with
    | false=>rfl
    | true =>
     obtain ⟨e,he',hb⟩:=Array.any_eq_true'.1 hx
     simp only [Bool.and_eq_true,beq_iff_eq] at hb
     exact (hno e he' hb.1 hb.2).elim
   ·refine ⟨λ h0 => ?_,λ i hi => ?_⟩
    ·obtain ⟨i,_,_,hr,_⟩:=hleast j0 hj0 hun0
     rw [h0] at hr;cases hr
    ·have hi1:earlyB es i=true:=by
      cases hge:earlyB es i with
      | true=>rfl
      | false =>
      obtain ⟨hun,o,ho0,hdep⟩:=mem_ready.1 hi
      have ho:ops[i]? = some o:=by simpa using ho0
      have hw:=hops' i o ho
      simp only [webOpR,hge,Bool.false_eq_true,if_false,Bool.or_eq_true] at hw
      rcases hw with h | h
      ·obtain ⟨e,he,hb⟩:=Array.any_eq_true'.1 h
       simp only [Bool.and_eq_true,Bool.not_eq_true'] at hb
       have h1:=hdep e he hb.1
       rw [hhi _ hb.2] at h1;cases h1
      ·simp only [List.all_eq_true] at h
       obtain ⟨q,_,hq1,hqr,_⟩:=hleast j0 hj0 hun0
       have hqf:freeB es q=false:=by
        cases hx:freeB es q with
        | false=>rfl
        | true=>exact (hpr ⟨q,hqr,hx⟩).elim
       have hqu:=(getD_tf (mem_ready.1 hqr).1).2
       have hq:=h q (mem_early.2 hq1)
       rw [hqf] at hq
       simp only [Bool.false_or] at hq
       obtain ⟨e,he,hb⟩:=Array.any_eq_true'.1 hq
       simp only [Bool.and_eq_true,Bool.or_eq_true,beq_iff_eq] at hb
       have h1:=hdep e he hb.1
       rcases hb.2 with h2 | h2
       ·rw [h2,hqu] at h1;cases h1
       ·have:=reach_listed hcl q 12 e.on h1 h2
        rw [hqu] at this;cases this
     have hif:freeB es i=false:=by
      cases hx:freeB es i with
      | false=>rfl
      | true=>exact (hpr ⟨i,hi,hx⟩).elim
     obtain ⟨o,d,ho,hd,hdk,hbsz,he,hwant,hap,next⟩:=common i hi hi1
     have ho0:ops.toArray[i]? = some o:=by simpa using ho
     have hO:=hob i hi1 hif o ho0 u w hT.base hdk (λ _ _ _=>False)
      (λ b' w'=>∃ v,b'=(A u).put o.dst v∧(Below w.heap.size w w'∧okAt sp i v w'∧(∀ p∈ownAt sp i v,Blk w' p.1 p.2.1 p.2.2∧w.heap.size≤p.1)∧((ownAt sp i v).map (·.1)).Nodup))
      (λ v w' h1 h2 h3 h4=>⟨v,rfl,h1,h2,h3,h4⟩)
     unfold wpOp
     simp only [ho0]
     rw [hwant]
     by_cases hw2:Region.wanted o (yielded ops.toArray (A u).tmps)=true
     ·rw [if_pos hw2] at hO ⊢
      exact .inl (wp_move hd hbsz he next hO)
     ·rw [if_neg hw2] at hO ⊢
      obtain ⟨v,e,hF⟩:=hO
      rw [hd] at e
      obtain rfl:=put_inj hbsz e
      exact next _ _ hF
theorem wp_region_webR {P:Program} {id:Nat} {ops:List Oper} {Q:Exit→Act→World→Prop} {a0:Act} {w0 w:World} (sp:List Sp) (es:List Nat) (base:List (Nat × Nat × List Value)) (size k:Nat) (l1:Array Bool)
  (hm:P.follows .mixedOrders=true) (hchk:webBR ops.toArray es size=true) (hlen:es.length=sp.length) (hk:(early es).length+k=ops.length) (hl:((List.range ops.length).map (earlyB es)).toArray=l1)
  (hsz:size≤a0.tmps.size) (hmono:MonoAll sp) (hT:Tr w0 base w.drew) (hQ:∀ c a (d:Tmp) v w,Q (.panic c) (a.put (some d) v) w→Q (.panic c) a w) {A:(Nat→Value)→Act} (hA:∀ u,fillL (earlyB es) ops sp u 0 a0=A u) (hob:ObAll (WebOb P ops.toArray w0 base sp A) (WebPure P ops.toArray w0 base sp A) es 0)
  (hend:∀ u w',Tr w0 (ownsL (earlyB es) sp u 0++base) w'→okAll (earlyB es) sp u 0 w'→wpAny P .any ops.toArray Q k l1 (A u) w'):(Code.region id ops.toArray true).wp P Q a0 w:=by
 refine wp_region_any hm ?_
 have hnone:∀ j,(Array.replicate ops.length false).getD j false=false:=λ j=>by
  rw [Array.getD_eq_getD_getElem?,Array.getElem?_replicate];split <;> rfl
 have h:=web_coreR hchk hlen hsz hl hmono hA hQ (λ i h1 h2=>by have:=(hob.out i).1 h1 h2;rwa [Nat.zero_add] at this) (λ i h=>by have:=(hob.out i).2 h;rwa [Nat.zero_add] at this) hend ops.length (Array.replicate ops.length false) (λ _=>undef) w.drew (early es) (by simp) (λ j _=>hnone j)
  (λ j o _ hj=>by rw [hnone] at hj;cases hj) (λ j hj _=>mem_early.2 hj) (by omega)
  (by rw [owns_none sp 0 hnone];exact hT) (λ j hj=>by rw [hnone] at hj;cases hj)
 rw [fill_none ops sp 0 a0 hnone] at h
 simpa using h
theorem wp_region_webCR {P:Program} {id:Nat} {ops:List Oper} {Q:Exit→Act→World→Prop} {a0:Act} {w0 w:World} (sp:List Sp) (es:List Nat) (base:List (Nat × Nat × List Value)) (size k:Nat) (l1:Array Bool)
  (hm:P.follows .mixedOrders=true) (hchk:webBR ops.toArray es size=true) (hlen:es.length=sp.length) (hk:(early es).length+k=ops.length) (hl:((List.range ops.length).map (earlyB es)).toArray=l1)
  (hsz:size≤a0.tmps.size) (hmono:MonoAll sp) (hT:Tr w0 base w.drew) (hQ:∀ c a (d:Tmp) v w,Q (.panic c) (a.put (some d) v) w→Q (.panic c) a w) {A:(Nat→Value)→Act} (hA:∀ u,fillC es ops sp u 0 a0=A u) (hob:ObAll (WebOb P ops.toArray w0 base sp A) (WebPure P ops.toArray w0 base sp A) es 0)
  (hend:∀ u w',Tr w0 (ownsC es sp u 0++base) w'→okAll (earlyB es) sp u 0 w'→wpAny P .any ops.toArray Q k l1 (A u) w'):(Code.region id ops.toArray true).wp P Q a0 w :=
 wp_region_webR sp es base size k l1 hm hchk hlen hk hl hsz hmono hT hQ (λ u=>by rw [fillC_eq es ops sp 0 a0 _ (λ k=>by rw [Nat.zero_add])];exact hA u) hob
  (λ u w' h1 h2=>hend u w' (by rw [←ownsC_eq es sp 0 (earlyB es) (λ k=>by rw [Nat.zero_add])];exact h1) h2)
abbrev Mx:=(Nat→Prop)→World→Prop
def MSt (G:Mx):Prop:=∀ (A A':Nat→Prop) (w w':World),(∀ b,A b→b<w.heap.size→A' b∧w'.heap[b]? = w.heap[b]?)→G A w→G A' w'
theorem MSt.tf (t:TL) (cs:List Value):MSt λ A w=>TF A w t cs:=λ _ _ _ _ h hg=>hg.turn EF.stay h
theorem MSt.tr (t:TL) (cs:List Value):MSt λ A w=>TR A w t cs:=λ _ _ _ _ h hg=>hg.turn ER.stay h
theorem MSt.sf (t:SL) (cs:List Value):MSt λ A w=>SF A w t cs:=λ _ _ _ _ h hg=>hg.turn EF.stay h
theorem MSt.ro (v:Value) (size n:Nat) (cs:List Value):MSt λ A w=>ROA A w v size n cs:=λ _ _ _ _ h hg=>hg.turn h
theorem MSt.and {G G':Mx} (h:MSt G) (h':MSt G'):MSt λ A w=>G A w∧G' A w:=λ A A' w w' hA hg=>⟨h A A' w w' hA hg.1,h' A A' w w' hA hg.2⟩
theorem MSt.pg (t:List Pr) (cs:List Value):MSt λ A w=>PG 3 9 EF A w t cs:=λ _ _ _ _ h hg=>hg.turn EF.stay h
theorem MSt.tt:MSt λ _ _=>True:=λ _ _ _ _ _ _=>trivial
theorem MSt.mono {G:Mx} (h:MSt G) {A A':Nat→Prop} {w:World} (hA:∀ b,A b→A' b) (hg:G A w):G A' w:=h A A' w w (λ b hb _=>⟨hA b hb,rfl⟩) hg
theorem Tr.cell {w W:World} {ls} (h:Tr w ls W) (j:Nat) {b t:Nat} {l:List Value} (hj:ls[j]? = some (b,t,l)) (i:Nat) (u:Value):Tr w (ls.set j (b,t,l.set i u)) (W.setCell ⟨b,i,none⟩ u) :=
 h.upd j hj ⟨rfl,rfl,rfl,by simp,λ k hk hn=>Below.heap_setCell _ _ _ _ (λ e=>hn (by rw [e]))⟩ ((h.at j hj).set i u)
theorem ROA.len1 {A:Nat→Prop} {w:World} {p:Option Addr} {m c size n:Nat} {cs:List Value} (h:ROA A w (.slice p m c) size n cs) (e:n=m):ROA A w (.slice p n c) size n cs:=by subst e;exact h
structure Out (et es:Nat) (G:Mx) (w wr:World) (ls:Bx) (v:Value) (n:Nat) (oc:List Value):Prop where
 tr:Tr w ls wr
 own:wr.ownsRow w.heap.size et es v n oc
 ne:∀ x∈ls,v.ownBlock≠some x.1
 g:G (λ b=>w.heap.size≤b∧v.ownBlock≠some b∧∀ x∈ls,x.1≠b) wr
section
variable {et es:Nat} {G:Mx} {w wr W W':World} {ls:Bx} {v:Value} {n:Nat} {oc:List Value}
theorem Out.lt (h:Out et es G w wr ls v n oc):∀ k,v.ownBlock=some k→w.heap.size≤k∧k<wr.heap.size:=own_lt' h.own
theorem Out.bel (h:Out et es G w wr ls v n oc):Below w.heap.size w wr:=h.tr.bel
theorem Out.start (hG:MSt G) (h:Tr w ls wr) (hg:G (λ b=>w.heap.size≤b∧∀ x∈ls,x.1≠b) wr):Out et es G w wr ls (.slice none 0 0) 0 [] :=
 ⟨h,World.ownsRow_nil _ _ _ _,λ x _ e=>(by cases e),hG.mono (λ b hb=>⟨hb.1,λ e=>(by cases e),hb.2⟩) hg⟩
theorem Out.below (hG:MSt G) (h:Out et es G w wr ls v n oc) (hb:Below wr.heap.size wr W):Out et es G w W ls v n oc :=
 ⟨h.tr.below hb,ownsRow_keep h.own λ k hk=>hb.block k (h.lt k hk).2,h.ne,hG _ _ _ _ (λ b h1 h2=>⟨h1,hb.block b h2⟩) h.g⟩
theorem Out.lay (hG:MSt G) (h:Out et es G w wr ls v n oc) (t:Nat) (l:List Value):Out et es G w (wr.alloc (.cells l.toArray t)) ((wr.heap.size,t,l)::ls) v n oc:=by
 have h':=h.below hG (Below.new wr (.cells l.toArray t))
 refine ⟨h.tr.lay t l,h'.own,λ x hx => ?_,hG _ _ _ _ (λ b h1 h2=>⟨⟨h1.1,h1.2.1,λ x hx => ?_⟩,(Below.new wr (.cells l.toArray t)).block b h2⟩) h.g⟩
 ·rcases List.mem_cons.1 hx with rfl | hx
  ·intro e;have:=(h.lt _ e).2;exact absurd this (Nat.lt_irrefl _)
  ·exact h.ne x hx
 ·rcases List.mem_cons.1 hx with rfl | hx
  ·show wr.heap.size≠b;omega
  ·exact h1.2.2 x hx
theorem Out.at (h:Out et es G w wr ls v n oc) (j:Nat) {b t:Nat} {l:List Value} (hj:ls[j]? = some (b,t,l)):Blk wr b t l:=h.tr.at j hj
theorem Out.set (hG:MSt G) (h:Out et es G w wr ls v n oc) (j:Nat) {b t:Nat} {l:List Value} (hj:ls[j]? = some (b,t,l)) (i:Nat) (u:Value):Out et es G w (wr.setCell ⟨b,i,none⟩ u) (ls.set j (b,t,l.set i u)) v n oc:=by
 have hmem:(b,t,l)∈ls:=List.mem_of_getElem? hj
 have hb:=h.tr.blk _ hmem
 have hin:∀ x,x∈ls.set j (b,t,l.set i u)→x.1=b∨x∈ls:=λ x hx=>by
  rcases List.mem_or_eq_of_mem_set hx with hx | rfl
  ·exact .inr hx
  ·exact .inl rfl
 have hold:∀ k,k<wr.heap.size→k≠b→(wr.setCell ⟨b,i,none⟩ u).heap[k]? = wr.heap[k]? := λ k _ hn=>Below.heap_setCell _ _ _ _ hn
 refine ⟨h.tr.upd j hj ⟨rfl,rfl,rfl,by simp,λ k hk hn=>hold k hk (λ e=>hn (by rw [e]))⟩ (hb.set i u),ownsRow_keep h.own λ k hk=>hold k (h.lt k hk).2 (λ e=>h.ne _ hmem (by rw [hk,e])),λ x hx => ?_,hG _ _ _ _ (λ k h1 h2=>⟨⟨h1.1,h1.2.1,λ x hx => ?_⟩,hold k h2 (λ e=>h1.2.2 _ hmem (by rw [e]))⟩) h.g⟩
 ·rcases hin x hx with e | hx
  ·rw [e];exact h.ne _ hmem
  ·exact h.ne x hx
 ·rcases hin x hx with e | hx
  ·rw [e];exact h1.2.2 _ hmem
  ·exact h1.2.2 x hx
theorem Out.drop (hG:MSt G) (h:Out et es G w wr ls v n oc) (j:Nat):Out et es G w wr (ls.drop j) v n oc :=
 ⟨h.tr.subs (λ p hp=>List.mem_of_mem_drop hp) (by rw [List.map_drop];exact h.tr.nd.sublist (List.drop_sublist _ _)),h.own,λ x hx=>h.ne x (List.mem_of_mem_drop hx),hG.mono (λ b hb=>⟨hb.1,hb.2.1,λ x hx=>hb.2.2 x (List.mem_of_mem_drop hx)⟩) h.g⟩
theorem Out.more {G' N:Mx} (hG:MSt G) (hN:MSt N) (h:Out et es G w wr ls v n oc) (hb:Below wr.heap.size wr W) (hn:N (From wr.heap.size) W) (hc:∀ A W,G A W→N A W→G' A W):Out et es G' w W ls v n oc:=by
 have h':=h.below hG hb
 refine ⟨h'.tr,h'.own,h'.ne,hc _ _ h'.g (hN.mono (λ b hb2 => ?_) hn)⟩
 have hb3:wr.heap.size≤b:=hb2
 refine ⟨Nat.le_trans h.tr.bel.size hb3,λ e => ?_,λ x hx e => ?_⟩
 ·have:=(h.lt b e).2;omega
 ·have:=(h.tr.blk x hx).lt;omega
theorem Out.app (hG:MSt G) (h:Out et es G w wr ls v n oc) {m:Nat} {v':Value} {xs:List Value} (ha:AppR w.heap.size et es wr v m xs v' W'):Out et es G w W' ls v' m xs:=by
 have hold:∀ k,k<wr.heap.size→v.ownBlock≠some k→W'.heap[k]? = wr.heap[k]? := λ k hk hn=>ha.grown.block k hk (Ne.symm hn)
 have hne:∀ k,k<wr.heap.size→v.ownBlock≠some k→v'.ownBlock≠some k:=λ k hk hn e=>by
  rcases ha.at_ with e2 | e2
  ·exact hn (e2 ▸ e)
  ·have:=Option.some.inj (e2.symm.trans e);omega
 refine ⟨⟨ha.below h.tr.bel h.tr.bel.size λ k hk=>(h.lt k hk).1,λ p hp => ?_,h.tr.ge,h.tr.nd⟩,ha.own,λ x hx=>hne _ (h.tr.blk x hx).lt (h.ne x hx),hG _ _ _ _ (λ b h1 h2=>⟨⟨h1.1,hne b h2 h1.2.1,h1.2.2⟩,hold b h2 h1.2.1⟩) h.g⟩
 have hb:=h.tr.blk p hp
 unfold Blk at hb ⊢
 rw [hold _ (some_lt hb) (h.ne p hp)];exact hb
theorem Out.row (h:Out et es G w wr ls v n oc):ROA (λ b=>w.heap.size≤b∧∀ x∈ls,x.1≠b) wr v es n oc:=by
 have ho:=h.own
 refine ⟨ho.1,?_⟩
 rcases ho.2 with ⟨e1,e2⟩ | ⟨g,cap,cur,hv,hb,hg,h1,h2,h3,h4⟩
 ·rw [e1,e2]
  refine ⟨_,_,rfl,Nat.le_refl _,λ j u hj => ?_⟩
  have:=ho.1
  rw [e2,Nat.zero_mul] at this
  rw [List.eq_nil_of_length_eq_zero this] at hj;simp at hj
 ·refine ⟨_,_,hv,h1,λ j u hj=>⟨g,0,rfl,⟨hb,λ x hx e=>h.ne x hx (by rw [hv,e];rfl)⟩,?_⟩⟩
  have:=ho.cells (g:=g) (by rw [hv];rfl) j u hj
  have hadd:(⟨g,0,none⟩:Addr).add j=⟨g,0+j,none⟩:=by unfold Addr.add;split <;> simp_all
  rwa [hadd] at this
theorem Out.turn {et' es':Nat} {G':Mx} (hG:MSt G) (h:Out et es G w wr ls v n oc) (hG':MSt G') (hc:∀ A W,G A W→ROA A W v es n oc→G' A W):Out et' es' G' w wr ls (.slice none 0 0) 0 [] :=
 .start hG' h.tr (hc _ _ (hG.mono (λ b hb=>⟨hb.1,hb.2.2⟩) h.g) h.row)
def putAt:List Value→Nat→List Value→List Value
 | l,_, []=>l
 | l,o,v::r=>putAt (l.set o v) (o+1) r
theorem putAt_at:∀ (vs:List Value) (o:Nat) (l:List Value),o+vs.length≤l.length→putAt l o vs=l.take o++vs++l.drop (o+vs.length)
 | [],o,l,_=>by simp [putAt]
 | v::r,o,l,h=>by
  have ho:o<l.length:=by simp only [List.length_cons] at h;omega
  have h':o+1+r.length≤(l.set o v).length:=by rw [List.length_set];simp only [List.length_cons] at h;omega
  rw [putAt,putAt_at r (o+1) _ h']
  have e1:(l.set o v).take (o+1)=l.take o ++ [v]:=by
   apply List.ext_getElem?
   intro q
   rw [List.getElem?_take,List.getElem?_set,List.getElem?_append,List.length_take,List.getElem?_take]
   by_cases h1:q<o
   ·have h2:q<min o l.length:=by omega
    rw [if_pos (by omega),if_neg (by omega),if_pos h2,if_pos h1]
   ·have h2:¬q<min o l.length:=by omega
    rw [if_neg h2]
    by_cases h3:q=o
    ·subst h3
     rw [if_pos (by omega),if_pos rfl,if_pos ho,show q-min q l.length=0 by omega];rfl
    ·rw [if_neg (by omega)]
     rw [List.getElem?_eq_none (by simp only [List.length_singleton];omega)]
  have e2:(l.set o v).drop (o+1+r.length)=l.drop (o+(r.length+1)):=by
   apply List.ext_getElem?
   intro q
   rw [List.getElem?_drop,List.getElem?_drop,List.getElem?_set,if_neg (by omega),show o+1+r.length+q=o+(r.length+1)+q by omega]
  rw [e1,e2,List.length_cons]
  simp
theorem putAt_all {vs l:List Value} (h:vs.length=l.length):putAt l 0 vs=vs:=by
 rw [putAt_at vs 0 l (by omega)]
 simp [h]
theorem Out.sets (hG:MSt G) (j:Nat) {b t:Nat}:∀ (vs:List Value) (o:Nat) {wr:World} {ls:Bx} {l:List Value},Out et es G w wr ls v n oc→ls[j]? = some (b,t,l)→Out et es G w (wr.setCells b o vs) (ls.set j (b,t,putAt l o vs)) v n oc
 | [],_,_,ls,l,h,hj=>by
  have e:ls.set j (b,t,l)=ls:=by
   apply List.ext_getElem?
   intro q
   rw [List.getElem?_set]
   split
   ·rename_i e
    subst e
    rw [hj,if_pos (List.getElem?_eq_some_iff.1 hj).1]
   ·rfl
  show Out et es G w _ (ls.set j (b,t,l)) v n oc
  rw [e];exact h
 | u::r,o,wr,ls,l,h,hj=>by
  have h1:=h.set hG j hj o u
  have h2:=Out.sets hG j r (o+1) (l:=l.set o u) h1 (by rw [List.getElem?_set,if_pos rfl,if_pos (List.getElem?_eq_some_iff.1 hj).1])
  rw [List.set_set] at h2
  exact h2
theorem Out.all (hG:MSt G) (h:Out et es G w wr ls v n oc) (j:Nat) {b t:Nat} {l:List Value} (hj:ls[j]? = some (b,t,l)) (vs:List Value) (hl:vs.length=l.length):Out et es G w (wr.setCells b 0 vs) (ls.set j (b,t,vs)) v n oc:=by
 have h2:=Out.sets hG j vs 0 h hj
 rwa [putAt_all hl] at h2
end
theorem step_store {P:Program} {w:World} {ops:Array Oper} {o:Oper} {a:Act} {K:Act→World→Prop} {Q:Exit→Act→World→Prop} {E:Prop} (hgd:o.guard=none) (ty:TypeId) (x y:Operand) (ho:o.op = .store ty x y)
  (b:Nat) (cells:List Value) (hx:a.eval x = .pointer (some ⟨b,0,none⟩)) (hy:a.eval y = .agg cells.toArray) {t:TypeId} {l:List Value} (hk:Blk w b t l) (hl:cells.length≤l.length) (hi:(P.info? ty).map (·.size)=some cells.length)
  (h1:∀ u∈cells,u.oneCell'=true) (h:K (a.put o.dst undef) (w.setCells b 0 cells)):if Region.wanted o (yielded ops a.tmps)=true then Oper.wp P o a w K Q else E:=by
 have hw:Region.wanted o (yielded ops a.tmps)=true:=by simp [Region.wanted,hgd]
 rw [if_pos hw]
 refine wp_store_mid ty x y ho b 0 cells.toArray hx hy (λ j hj => ?_) (by simpa using hi) (all_oneCell_toArray h1) (by simpa using h)
 have hj':j<l.length:=Nat.lt_of_lt_of_le (by simpa using hj) hl
 rw [Nat.zero_add]
 exact ⟨by rw [hk.cell (List.getElem?_eq_getElem hj')];rfl,hk.frz j⟩
end Go.Proofs.Ytlklleaocbnbcaa
