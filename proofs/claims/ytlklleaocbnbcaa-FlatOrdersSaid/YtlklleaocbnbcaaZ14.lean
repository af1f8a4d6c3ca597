import Derived.Test.YtlklleaocbnbcaaZ13
namespace Go.Proofs.Ytlklleaocbnbcaa
set_option linter.unusedVariables false
open Go.RowKit
def BM (bm:Nat) (w w':World):Prop:=Upd (One bm) (One bm) w w'∧Mk bm w'
theorem BM.refl {bm:Nat} {w:World} (h:Mk bm w):BM bm w w:=⟨Upd.refl _ _,h⟩
theorem BM.below {bm:Nat} {w w':World} (h:Mk bm w) (hb:Below w.heap.size w w'):BM bm w w':=⟨Upd.below hb,h.below hb⟩
structure TrM (bm:Nat) (w:World) (ls:List (Nat × Nat × List Value)) (W:World):Prop where
 maker:Mk bm W
 lt:bm<w.heap.size
 bel:Upd (One bm) (One bm) w W
 blk:∀ p∈ls,Blk W p.1 p.2.1 p.2.2
 ge:∀ p∈ls,w.heap.size≤p.1
 nd:(ls.map (·.1)).Nodup
theorem TrM.below {bm:Nat} {w W W':World} {ls} (h:TrM bm w ls W) (hb:BM bm W W'):TrM bm w ls W' :=
 ⟨hb.2,h.lt,h.bel.trans hb.1,λ p hp=>hb.1.blk (h.blk p hp) (λ e=>by have:=h.ge p hp;have:=h.lt;have e':p.1=bm:=e;omega),h.ge,h.nd⟩
def Sp.MonoM (bm:Nat) (s:Sp):Prop:=∀ u w w',BM bm w w'→s.ok u w→s.ok u w'
theorem Sp.MonoM.known {bm:Nat} {v:Value}:(Sp.known v).MonoM bm:=λ _ _ _ _ h=>h
theorem Sp.MonoM.box {bm t:Nat} {l:List Value}:(Sp.box t l).MonoM bm:=λ _ _ _ _ h=>h
def reachB (ops:Array Oper):Nat→Nat→Nat→Bool
 | 0,_,_=>false
 | n+1,i,q=>match ops[i]? with
  | some o'=>o'.after.any λ e=>Region.binds .any e && (e.on == q || reachB ops n e.on q)
  | none=>false
theorem reach_listed {ops:List Oper} {listed:Array Bool} (hcl:∀ j o,ops[j]? = some o→listed.getD j false=true→∀ i,depB o i=true→listed.getD i false=true) (q:Nat):∀ n i,listed.getD i false=true→reachB ops.toArray n i q=true→listed.getD q false=true
 | 0,_,_,h=>by simp [reachB] at h
 | n+1,i,hi,h=>by
  unfold reachB at h
  cases ho':ops[i]? with
  | none=>simp [ho'] at h
  | some o' =>
   have h3:(o'.after.any λ e=>Region.binds .any e && (e.on == q || reachB ops.toArray n e.on q))=true:=by simpa [ho'] using h
   obtain ⟨e,he,hb⟩:=Array.any_eq_true'.1 h3
   simp only [Bool.and_eq_true,Bool.or_eq_true,beq_iff_eq] at hb
   have hd:depB o' e.on=true:=Array.any_eq_true'.2 ⟨e,he,by simp [hb.1]⟩
   have h4:=hcl i o' ho' hi e.on hd
   rcases hb.2 with h5 | h5
   ·rw [←h5];exact h4
   ·exact reach_listed hcl q n e.on h4 h5
def webOpR (ops:Array Oper) (es:List Nat) (size i:Nat) (o:Oper):Bool :=
 if earlyB es i then
  (o.after.all λ e => !Region.binds .any e || (decide (e.on<i) && earlyB es e.on)) &&
  (match o.dst with | some d=>decide (d<size) | none=>false) &&
  (early es).all (λ j=>j == i || ((ops[j]?).bind (·.dst)) != o.dst) &&
  (o.looksAt ops).all (λ t=>(early es).all λ j=>((ops[j]?).bind (·.dst)) != some t || depB o j) &&
  (!freeB es i || (List.range ops.size).all λ j=>j == i || match ops[j]? with | some o'=>depB o' i || depB o j || o.apart ops o' | none=>true)
 else
  o.after.any (λ e=>Region.binds .any e && !earlyB es e.on) ||
  (early es).all λ j=>freeB es j || o.after.any λ e=>Region.binds .any e && (e.on == j || reachB ops 12 e.on j)
def webBR (ops:Array Oper) (es:List Nat) (size:Nat):Bool :=
 Region.noSelect ops && decide (es.length≤ops.size) && (List.range ops.size).all λ i=>match ops[i]? with
  | some o=>webOpR ops es size i o
  | none=>true
def MonoAllM (bm:Nat):List Sp→Prop
 | []=>True
 | s::sp=>s.MonoM bm∧MonoAllM bm sp
theorem MonoAllM.get {bm:Nat} {sp:List Sp} (h:MonoAllM bm sp) (j:Nat):(spAt sp j).MonoM bm:=by
 induction sp generalizing j with
 | nil=>exact Sp.MonoM.known
 | cons s sp ih =>
  cases j with
  | zero=>exact h.1
  | succ j=>exact ih h.2 j
theorem TrM.many {bm:Nat} {w W W':World} {ls bs} (h:TrM bm w ls W) (hb:BM bm W W') (hk:∀ p∈bs,Blk W' p.1 p.2.1 p.2.2∧W.heap.size≤p.1) (hn:(bs.map (·.1)).Nodup):TrM bm w (bs++ls) W':=by
 have h':=h.below hb
 refine ⟨h'.maker,h.lt,h'.bel,λ p hp => ?_,λ p hp => ?_,?_⟩
 ·rcases List.mem_append.1 hp with hp | hp
  ·exact (hk p hp).1
  ·exact h'.blk p hp
 ·rcases List.mem_append.1 hp with hp | hp
  ·have:=(hk p hp).2;have:=h.bel.size;omega
  ·exact h.ge p hp
 ·rw [List.map_append,List.nodup_append]
  refine ⟨hn,h.nd,λ x hx y hy e => ?_⟩
  obtain ⟨p,hp,e1⟩:=List.mem_map.1 hx
  obtain ⟨q,hq,e2⟩:=List.mem_map.1 hy
  have h1:=(hk p hp).2
  have h2:=(h.blk q hq).lt
  omega
theorem TrM.base {bm:Nat} {w W:World} {bs ls} (h:TrM bm w (bs++ls) W):TrM bm w ls W :=
 ⟨h.maker,h.lt,h.bel,λ p hp=>h.blk p (List.mem_append_right _ hp),λ p hp=>h.ge p (List.mem_append_right _ hp),by have:=h.nd;rw [List.map_append,List.nodup_append] at this;exact this.2.1⟩
theorem TrM.perm {bm:Nat} {w W:World} {ls ls'} (h:TrM bm w ls W) (hp:ls'.Perm ls):TrM bm w ls' W :=
 ⟨h.maker,h.lt,h.bel,λ p hm=>h.blk p (hp.mem_iff.1 hm),λ p hm=>h.ge p (hp.mem_iff.1 hm),(hp.map (·.1)).nodup_iff.2 h.nd⟩
def WebPureM (bm:Nat) (P:Program) (ops:Array Oper) (w0:World) (base:List (Nat × Nat × List Value)) (sp:List Sp) (A:(Nat→Value)→Act) (i:Nat):Prop :=
 ∀ o,ops[i]? = some o→∀ u w,TrM bm w0 base w→(∀ j,depB o j=true→okAt sp j (u j) w)→∃ v,Yields P ops o v (A u)∧okAt sp i v w∧ownAt sp i v = []
def WebObM (bm:Nat) (P:Program) (ops:Array Oper) (w0:World) (base:List (Nat × Nat × List Value)) (sp:List Sp) (A:(Nat→Value)→Act) (i:Nat):Prop :=
 ∀ o,ops[i]? = some o→∀ u w,TrM bm w0 base w→(∀ j,depB o j=true→okAt sp j (u j) w)→∀ (Q:Exit→Act→World→Prop) (K:Act→World→Prop),
  Shut (∀ v w',BM bm w w'→okAt sp i v w'→(∀ p∈ownAt sp i v,Blk w' p.1 p.2.1 p.2.2∧w.heap.size≤p.1)→((ownAt sp i v).map (·.1)).Nodup→K ((A u).put o.dst v) w') →
  if Region.wanted o (yielded ops (A u).tmps)=true then o.wp P (A u) w K Q else K ((A u).put o.dst undef) w
theorem web_coreM {bm:Nat} {P:Program} {ops:List Oper} {Q:Exit→Act→World→Prop} {a0:Act} {w0:World} {sp:List Sp} {es:List Nat} {base:List (Nat × Nat × List Value)} {size k:Nat} {l1:Array Bool}
  (hchk:webBR ops.toArray es size=true) (hlen:es.length=sp.length) (hsz:size≤a0.tmps.size) (hl:((List.range ops.length).map (earlyB es)).toArray=l1) (hmono:MonoAllM bm sp)
  {A:(Nat→Value)→Act} (hA:∀ u,fillL (earlyB es) ops sp u 0 a0=A u) (hQ:∀ c a (d:Tmp) v w,Q (.panic c) (a.put (some d) v) w→Q (.panic c) a w) (hob:∀ i,earlyB es i=true→freeB es i=false→WebObM bm P ops.toArray w0 base sp A i) (hpu:∀ i,freeB es i=true→WebPureM bm P ops.toArray w0 base sp A i)
  (hend:∀ u w',TrM bm w0 (ownsL (earlyB es) sp u 0++base) w'→okAll (earlyB es) sp u 0 w'→wpAny P .any ops.toArray Q k l1 (A u) w') :
  ∀ (fuel:Nat) (listed:Array Bool) (u:Nat→Value) (w:World) (todo:List Nat),listed.size=ops.length→(∀ j,earlyB es j=false→listed.getD j false=false) →
   (∀ j o,ops[j]? = some o→listed.getD j false=true→∀ i,depB o i=true→listed.getD i false=true)→(∀ j,earlyB es j=true→listed.getD j false=false→j∈todo)→todo.length+k≤fuel →
   TrM bm w0 (ownsL (λ j=>listed.getD j false) sp u 0++base) w→(∀ j,listed.getD j false=true→okAt sp j (u j) w) →
   wpAny P .any ops.toArray Q fuel listed (fillL (λ j=>listed.getD j false) ops sp u 0 a0) w:=by
 simp only [webBR,Bool.and_eq_true,decide_eq_true_eq,List.all_eq_true,List.mem_range,List.size_toArray] at hchk
 obtain ⟨⟨hsel,hn1⟩,hops⟩:=hchk
 have hops':∀ i o,ops[i]? = some o→webOpR ops.toArray es size i o=true:=λ i o ho=>by
  have:=hops i (List.getElem?_eq_some_iff.1 ho).1
  simpa [ho] using this
 have hein:∀ j,earlyB es j=true→j<sp.length:=λ j hj=>by
  have:=mem_early.2 hj
  unfold early at this
  rw [List.mem_filter,List.mem_range] at this
  omega
 have hdone:∀ (fuel:Nat) (listed:Array Bool) (u:Nat→Value) (w:World),k≤fuel→listed.size=ops.length→(∀ j,earlyB es j=false→listed.getD j false=false)→(∀ j,earlyB es j=true→listed.getD j false=true) →
   TrM bm w0 (ownsL (λ j=>listed.getD j false) sp u 0++base) w→(∀ j,listed.getD j false=true→okAt sp j (u j) w) →
   wpAny P .any ops.toArray Q fuel listed (fillL (λ j=>listed.getD j false) ops sp u 0 a0) w:=by
  intro fuel listed u w hf hls hhi hall hT hok
  have hle:∀ j,listed.getD j false=earlyB es j:=λ j=>by
   cases h:earlyB es j with
   | true=>exact hall j h
   | false=>exact hhi j h
  have hl1:listed=l1:=by
   rw [←hl]
   apply Array.ext
   ·simp [hls]
   ·intro i h1 h2
    have:=hle i
    rw [Array.getD_eq_getD_getElem?,Array.getElem?_eq_getElem h1] at this
    simpa using this
  rw [fill_congr (l:=λ j=>listed.getD j false) (l':=earlyB es) (u:=u) (u':=u) ops sp 0 a0 (λ q _=>hle q) (λ _ _=>rfl),hA]
  rw [owns_congr (l:=λ j=>listed.getD j false) (l':=earlyB es) (u:=u) (u':=u) sp 0 (λ q _=>hle q) (λ _ _=>rfl)] at hT
  have:=hend u w hT (okAll_of sp 0 λ q _ he=>by rw [Nat.zero_add] at he ⊢;exact hok q (hall q he))
  rw [hl1];exact wpAny_le hf this
 intro fuel
 induction fuel with
 | zero =>
  intro listed u w todo hls hhi hcl htodo hf hT hok
  have ht:todo = []:=List.eq_nil_of_length_eq_zero (by omega)
  refine hdone 0 listed u w (by omega) hls hhi (λ j hj => ?_) hT hok
  cases h:listed.getD j false with
  | true=>rfl
  | false=>have:=htodo j hj h;rw [ht] at this;cases this
 | succ fuel ih =>
  intro listed u w todo hls hhi hcl htodo hf hT hok
  by_cases hall:∀ j,earlyB es j=true→listed.getD j false=true
  ·exact hdone _ listed u w (by omega) hls hhi hall hT hok
  ·have hex:∃ j,earlyB es j=true∧listed.getD j false=false:=by
    apply Classical.byContradiction
    intro hno
    exact hall λ j hj=>by
     cases h:listed.getD j false with
     | true=>rfl
     | false=>exact (hno ⟨j,hj,h⟩).elim
   obtain ⟨j0,hj0,hun0⟩:=hex
   have hfe:∀ j,freeB es j=true→earlyB es j=true:=λ j hj=>by
    have h1:es.getD j 0=2:=by simpa only [freeB,beq_iff_eq] using hj
    unfold earlyB;rw [h1];rfl
   have hle:∀ j,listed.getD j false=true→earlyB es j=true:=λ j hj=>by
    cases h:earlyB es j with
    | true=>rfl
    | false=>rw [hhi j h] at hj;cases hj
   have common:∀ i,i∈Region.ready .any ops.toArray listed→earlyB es i=true→∃ o d,ops[i]? = some o∧o.dst=some d∧(∀ j,depB o j=true→okAt sp j (u j) w)∧d<(A u).tmps.size ∧
     execOp (fillL (λ j=>listed.getD j false) ops sp u 0 a0).eval o=execOp (A u).eval o∧Region.wanted o (yielded ops.toArray (fillL (λ j=>listed.getD j false) ops sp u 0 a0).tmps)=Region.wanted o (yielded ops.toArray (A u).tmps) ∧
     (freeB es i=true→∀ j oj,ops.toArray[j]? = some oj→j≠i→listed.getD j true=false→depB oj i=false→o.apart ops.toArray oj=true) ∧
     (∀ v w',(BM bm w w'∧okAt sp i v w'∧(∀ p∈ownAt sp i v,Blk w' p.1 p.2.1 p.2.2∧w.heap.size≤p.1)∧((ownAt sp i v).map (·.1)).Nodup) →
      wpAny P .any ops.toArray Q fuel (listed.setIfInBounds i true) ((fillL (λ j=>listed.getD j false) ops sp u 0 a0).put o.dst v) w'):=by
    intro i hi hi1
    obtain ⟨hun,o,ho0,hdep⟩:=mem_ready.1 hi
    have ho:ops[i]? = some o:=by simpa using ho0
    obtain ⟨his,hunf⟩:=getD_tf hun
    have hw:=hops' i o ho
    have hdB:∀ q,depB o q=true→listed.getD q false=true:=λ q hq=>by
     obtain ⟨e,he,hb⟩:=Array.any_eq_true'.1 hq
     simp only [Bool.and_eq_true,beq_iff_eq] at hb
     rw [←hb.2];exact hdep e he hb.1
    have hi2:=hein i hi1
    simp only [webOpR,hi1,if_true,Bool.and_eq_true,Array.all_eq_true_iff_forall_mem,List.all_eq_true] at hw
    obtain ⟨⟨⟨⟨hedge,hdst⟩,hdist⟩,hlook⟩,hfr⟩:=hw
    obtain ⟨d,hd⟩:∃ d,o.dst=some d:=by
     cases hx:o.dst with
     | none=>simp [hx] at hdst
     | some d=>exact ⟨d,rfl⟩
    have hdsz:d<size:=by simpa [hd] using hdst
    have hLk:∀ t∈o.looksAt ops.toArray,(fillL (λ j=>listed.getD j false) ops sp u 0 a0).tmps[t]? = (A u).tmps[t]? := λ t ht=>by
     rw [←hA]
     refine fill_get ops sp 0 a0 a0 rfl rfl hle λ q o' ho' hq hd' => ?_
     rw [Nat.zero_add] at hq ⊢
     have h1:=hlook t ht q (mem_early.2 hq)
     simp only [List.getElem?_toArray,ho',Option.bind_some,hd',Bool.or_eq_true,bne_self_eq_false,Bool.false_eq_true,false_or] at h1
     exact hdB q h1
    obtain ⟨he,hwant⟩:=web_looks (Region.noSelect_spec hsel i o · · ho0) hLk
    have hbsz:d<(A u).tmps.size:=by rw [←hA,fill_size];exact Nat.lt_of_lt_of_le hdsz hsz
    refine ⟨o,d,ho,hd,λ j hj=>hok j (hdB j hj),hbsz,he,hwant,λ hf j oj hoj hne hju hnd => ?_,?_⟩
    ·rw [hf] at hfr
     simp only [Bool.not_true,Bool.false_or,List.all_eq_true,List.mem_range,List.size_toArray] at hfr
     have hj:ops[j]? = some oj:=by simpa using hoj
     have h1:=hfr j (List.getElem?_eq_some_iff.1 hj).1
     have hnj:depB o j=false:=by
      cases hx:depB o j with
      | false=>rfl
      | true=>have:=hdB j hx;rw [(getD_tf hju).2] at this;cases this
     simpa [hj,hne,hnd,hnj] using h1
    ·rintro v w' ⟨hb,hv,hown,hnd⟩
     obtain ⟨u',hu'⟩:∃ u':Nat→Value,u'=λ j=>if j=i then v else u j:=⟨_,rfl⟩
     have hui:u' i=v:=by rw [hu'];simp
     have huo:∀ q,q≠i→u' q=u q:=λ q hq=>by rw [hu'];simp [hq]
     have hfs:=fill_set (e:=earlyB es) (l:=λ j=>listed.getD j false) (l':=λ j=>(listed.setIfInBounds i true).getD j false) (u:=u) (u':=u') (d:=d) ops sp 0 i a0 o hi2 ho hd hle (λ k' o' hne hek ho'=>by
       rw [Nat.zero_add] at hek
       have h1:=hdist k' (mem_early.2 hek)
       simp only [List.getElem?_toArray,ho',Option.bind_some,Bool.or_eq_true,beq_iff_eq,hne,false_or,bne_iff_ne,hd] at h1
       exact h1) (by simpa using hunf) (by rw [Nat.zero_add,getD_set his];simp) (λ q hq=>by rw [Nat.zero_add] at hq;rw [getD_set his,if_neg hq]) (λ q hq=>huo q (by simpa using hq))
     rw [Nat.zero_add,hui,Sp.val_ok hv,←hd] at hfs
     rw [←hfs]
     have hmem:i∈todo:=htodo i hi1 hunf
     refine ih _ u' w' (todo.erase i) (by simpa using hls) (λ j hj => ?_) (λ j o' ho' hj q hq => ?_) (λ j hj hjl => ?_) ?_ ?_ (λ j hjl => ?_)
     ·rw [getD_set his,if_neg (λ e=>by rw [e,hi1] at hj;cases hj)];exact hhi j hj
     ·rw [getD_set his] at hj ⊢
      by_cases e:q=i
      ·rw [if_pos e]
      ·rw [if_neg e]
       by_cases e2:j=i
       ·subst e2
        rw [ho] at ho'
        obtain rfl:=Option.some.inj ho'
        exact hdB q hq
       ·rw [if_neg e2] at hj
        exact hcl j o' ho' hj q hq
     ·rw [getD_set his] at hjl
      by_cases e:j=i
      ·rw [if_pos e] at hjl;cases hjl
      ·rw [if_neg e] at hjl
       exact (List.mem_erase_of_ne e).2 (htodo j hj hjl)
     ·rw [List.length_erase_of_mem hmem]
      have:=List.length_pos_of_mem hmem
      omega
     ·have hp:=owns_set (l:=λ j=>listed.getD j false) (l':=λ j=>(listed.setIfInBounds i true).getD j false) (u:=u) (u':=u') sp 0 i hi2 (by simpa using hunf) (by rw [Nat.zero_add,getD_set his];simp) (λ q hq=>by rw [Nat.zero_add] at hq;rw [getD_set his,if_neg hq]) (λ q hq=>huo q (by simpa using hq))
      rw [Nat.zero_add,hui] at hp
      have h1:=hT.many hb hown hnd
      rw [←List.append_assoc] at h1
      exact h1.perm (List.Perm.append_right _ hp)
     ·rw [getD_set his] at hjl
      by_cases e:j=i
      ·subst e;rw [hui];exact hv
      ·rw [if_neg e] at hjl
       rw [huo j e]
       exact hmono.get j _ _ _ hb (hok j hjl)
   have hleast:∀ j0,earlyB es j0=true→listed.getD j0 false=false→∃ i,i≤j0∧earlyB es i=true∧i∈Region.ready .any ops.toArray listed∧(∀ j,j<i→¬(earlyB es j=true∧listed.getD j false=false)):=by
    intro j0 hj0 hun0
    obtain ⟨i,hij,⟨hi1,hi2⟩,hmin⟩:=least (p:=λ j=>earlyB es j=true∧listed.getD j false=false) j0 ⟨hj0,hun0⟩
    have hio:i<ops.length:=by have:=hein i hi1;omega
    have ho:ops[i]? = some ops[i]:=List.getElem?_eq_getElem hio
    have hw:=hops' i _ ho
    simp only [webOpR,hi1,if_true,Bool.and_eq_true,Array.all_eq_true_iff_forall_mem] at hw
    exact ⟨i,hij,hi1,mem_ready.2 ⟨getD_ft (by omega) hi2,ops[i],by simp,λ e he hb=>by
     have h1:=hw.1.1.1.1 e he
     rw [hb] at h1
     have h2:e.on<i∧earlyB es e.on=true:=by simpa using h1
     cases h:listed.getD e.on false with
     | true=>rfl
     | false=>exact (hmin e.on h2.1 ⟨h2.2,h⟩).elim⟩,hmin⟩
   by_cases hpr:∃ i,i∈Region.ready .any ops.toArray listed∧freeB es i=true
   ·obtain ⟨i,hi,hf⟩:=hpr
    obtain ⟨o,d,ho,hd,hdk,hbsz,he,hwant,hap,next⟩:=common i hi (hfe i hf)
    obtain ⟨v,hy,hv,hown⟩:=hpu i hf o (by simpa using ho) u w hT.base hdk
    refine wpAny_first (i:=i) (oi:=o) (v:=v) (by simpa using ho) (Region.noSelect_spec hsel) (λ c a w h=>by rw [hd] at h;exact hQ c a _ _ w h) fuel listed _ w (λ j oj hoj hne hju hno=>hap hf j oj hoj hne hju ?_) hi (hy.of_same he hwant)
     (next v w ⟨BM.refl hT.maker,hv,by rw [hown];exact λ p hp=>(by cases hp),by rw [hown];exact List.nodup_nil⟩)
    cases hx:depB oj i with
    | false=>rfl
    | true =>
     obtain ⟨e,he',hb⟩:=Array.any_eq_true'.1 hx
     simp only [Bool.and_eq_true,beq_iff_eq] at hb
     exact (hno e he' hb.1 hb.2).elim
   ·refine ⟨λ h0 => ?_,λ i hi => ?_⟩
    ·obtain ⟨i,_,_,hr,_⟩:=hleast j0 hj0 hun0
     rw [h0] at hr;cases hr
    ·have hi1:earlyB es i=true:=by
      cases hge:earlyB es i with
      | true=>rfl
      | false =>
      obtain ⟨hun,o,ho0,hdep⟩:=mem_ready.1 hi
      have ho:ops[i]? = some o:=by simpa using ho0
      have hw:=hops' i o ho
      simp only [webOpR,hge,Bool.false_eq_true,if_false,Bool.or_eq_true] at hw
      rcases hw with h | h
      ·obtain ⟨e,he,hb⟩:=Array.any_eq_true'.1 h
       simp only [Bool.and_eq_true,Bool.not_eq_true'] at hb
       have h1:=hdep e he hb.1
       rw [hhi _ hb.2] at h1;cases h1
      ·simp only [List.all_eq_true] at h
       obtain ⟨q,_,hq1,hqr,_⟩:=hleast j0 hj0 hun0
       have hqf:freeB es q=false:=by
        cases hx:freeB es q with
        | false=>rfl
        | true=>exact (hpr ⟨q,hqr,hx⟩).elim
       have hqu:=(getD_tf (mem_ready.1 hqr).1).2
       have hq:=h q (mem_early.2 hq1)
       rw [hqf] at hq
       simp only [Bool.false_or] at hq
       obtain ⟨e,he,hb⟩:=Array.any_eq_true'.1 hq
       simp only [Bool.and_eq_true,Bool.or_eq_true,beq_iff_eq] at hb
       have h1:=hdep e he hb.1
       rcases hb.2 with h2 | h2
       ·rw [h2,hqu] at h1;cases h1
       ·have:=reach_listed hcl q 12 e.on h1 h2
        rw [hqu] at this;cases this
     have hif:freeB es i=false:=by
      cases hx:freeB es i with
      | false=>rfl
      | true=>exact (hpr ⟨i,hi,hx⟩).elim
     obtain ⟨o,d,ho,hd,hdk,hbsz,he,hwant,hap,next⟩:=common i hi hi1
     have ho0:ops.toArray[i]? = some o:=by simpa using ho
     have hO:=hob i hi1 hif o ho0 u w hT.base hdk (λ _ _ _=>False)
      (λ b' w'=>∃ v,b'=(A u).put o.dst v∧(BM bm w w'∧okAt sp i v w'∧(∀ p∈ownAt sp i v,Blk w' p.1 p.2.1 p.2.2∧w.heap.size≤p.1)∧((ownAt sp i v).map (·.1)).Nodup))
      (λ v w' h1 h2 h3 h4=>⟨v,rfl,h1,h2,h3,h4⟩)
     unfold wpOp
     simp only [ho0]
     rw [hwant]
     by_cases hw2:Region.wanted o (yielded ops.toArray (A u).tmps)=true
     ·rw [if_pos hw2] at hO ⊢
      exact .inl (wp_move hd hbsz he next hO)
     ·rw [if_neg hw2] at hO ⊢
      obtain ⟨v,e,hF⟩:=hO
      rw [hd] at e
      obtain rfl:=put_inj hbsz e
      exact next _ _ hF
theorem web_pureM {bm:Nat} {P:Program} {ops:Array Oper} {w0:World} {base:List (Nat × Nat × List Value)} {sp:List Sp} {A:(Nat→Value)→Act} {i:Nat} {o:Oper} (ho:ops.toList[i]? = some o)
  (h:∀ u w,TrM bm w0 base w→(∀ j,depB o j=true→okAt sp j (u j) w)→∃ v,Yields P ops o v (A u)∧okAt sp i v w∧ownAt sp i v = []):WebPureM bm P ops w0 base sp A i:=λ o' ho'=>by
 obtain rfl:o=o':=by
  have:ops[i]? = some o:=by simpa using ho
  rw [this] at ho'
  exact Option.some.inj ho'
 exact h
theorem wp_region_webM {bm:Nat} {P:Program} {id:Nat} {ops:List Oper} {Q:Exit→Act→World→Prop} {a0:Act} {w0 w:World} (sp:List Sp) (es:List Nat) (base:List (Nat × Nat × List Value)) (size k:Nat) (l1:Array Bool)
  (hm:P.follows .mixedOrders=true) (hchk:webBR ops.toArray es size=true) (hlen:es.length=sp.length) (hk:(early es).length+k=ops.length) (hl:((List.range ops.length).map (earlyB es)).toArray=l1)
  (hsz:size≤a0.tmps.size) (hmono:MonoAllM bm sp) (hT:TrM bm w0 base w.drew) (hQ:∀ c a (d:Tmp) v w,Q (.panic c) (a.put (some d) v) w→Q (.panic c) a w) {A:(Nat→Value)→Act} (hA:∀ u,fillL (earlyB es) ops sp u 0 a0=A u) (hob:ObAll (WebObM bm P ops.toArray w0 base sp A) (WebPureM bm P ops.toArray w0 base sp A) es 0)
  (hend:∀ u w',TrM bm w0 (ownsL (earlyB es) sp u 0++base) w'→okAll (earlyB es) sp u 0 w'→wpAny P .any ops.toArray Q k l1 (A u) w'):(Code.region id ops.toArray true).wp P Q a0 w:=by
 refine wp_region_any hm ?_
 have hnone:∀ j,(Array.replicate ops.length false).getD j false=false:=λ j=>by
  rw [Array.getD_eq_getD_getElem?,Array.getElem?_replicate];split <;> rfl
 have h:=web_coreM hchk hlen hsz hl hmono hA hQ (λ i h1 h2=>by have:=(hob.out i).1 h1 h2;rwa [Nat.zero_add] at this) (λ i h=>by have:=(hob.out i).2 h;rwa [Nat.zero_add] at this) hend ops.length (Array.replicate ops.length false) (λ _=>undef) w.drew (early es) (by simp) (λ j _=>hnone j)
  (λ j o _ hj=>by rw [hnone] at hj;cases hj) (λ j hj _=>mem_early.2 hj) (by omega)
  (by rw [owns_none sp 0 hnone];exact hT) (λ j hj=>by rw [hnone] at hj;cases hj)
 rw [fill_none ops sp 0 a0 hnone] at h
 simpa using h
theorem web_opM {bm:Nat} {P:Program} {ops:Array Oper} {w0:World} {base:List (Nat × Nat × List Value)} {sp:List Sp} {A:(Nat→Value)→Act} {i:Nat} {o:Oper} (ho:ops.toList[i]? = some o)
  (h:∀ u w,TrM bm w0 base w→(∀ j,depB o j=true→okAt sp j (u j) w)→∀ (Q:Exit→Act→World→Prop) (K:Act→World→Prop),
   Shut (∀ v w',BM bm w w'→okAt sp i v w'→(∀ p∈ownAt sp i v,Blk w' p.1 p.2.1 p.2.2∧w.heap.size≤p.1)→((ownAt sp i v).map (·.1)).Nodup→K ((A u).put o.dst v) w') →
   if Region.wanted o (yielded ops (A u).tmps)=true then o.wp P (A u) w K Q else K ((A u).put o.dst undef) w):WebObM bm P ops w0 base sp A i:=λ o' ho'=>by
 obtain rfl:o=o':=by
  have:ops[i]? = some o:=by simpa using ho
  rw [this] at ho'
  exact Option.some.inj ho'
 exact h
theorem wp_region_webCM {bm:Nat} {P:Program} {id:Nat} {ops:List Oper} {Q:Exit→Act→World→Prop} {a0:Act} {w0 w:World} (sp:List Sp) (es:List Nat) (base:List (Nat × Nat × List Value)) (size k:Nat) (l1:Array Bool)
  (hm:P.follows .mixedOrders=true) (hchk:webBR ops.toArray es size=true) (hlen:es.length=sp.length) (hk:(early es).length+k=ops.length) (hl:((List.range ops.length).map (earlyB es)).toArray=l1)
  (hsz:size≤a0.tmps.size) (hmono:MonoAllM bm sp) (hT:TrM bm w0 base w.drew) (hQ:∀ c a (d:Tmp) v w,Q (.panic c) (a.put (some d) v) w→Q (.panic c) a w) {A:(Nat→Value)→Act} (hA:∀ u,fillC es ops sp u 0 a0=A u) (hob:ObAll (WebObM bm P ops.toArray w0 base sp A) (WebPureM bm P ops.toArray w0 base sp A) es 0)
  (hend:∀ u w',TrM bm w0 (ownsC es sp u 0++base) w'→okAll (earlyB es) sp u 0 w'→wpAny P .any ops.toArray Q k l1 (A u) w'):(Code.region id ops.toArray true).wp P Q a0 w :=
 wp_region_webM sp es base size k l1 hm hchk hlen hk hl hsz hmono hT hQ (λ u=>by rw [fillC_eq es ops sp 0 a0 _ (λ k=>by rw [Nat.zero_add])];exact hA u) hob
  (λ u w' h1 h2=>hend u w' (by rw [←ownsC_eq es sp 0 (earlyB es) (λ k=>by rw [Nat.zero_add])];exact h1) h2)
end Go.Proofs.Ytlklleaocbnbcaa
