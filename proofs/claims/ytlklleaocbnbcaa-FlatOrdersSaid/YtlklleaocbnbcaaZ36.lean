import Derived.Test.YtlklleaocbnbcaaZ35
namespace Go.Proofs.Ytlklleaocbnbcaa
set_option linter.unusedVariables false
open Go.RowKit
structure Turn (ps ps':List Pr):Prop where
 len:ps'.length=ps.length
 ex:∃ σ τ:Nat→Nat,∀ i,i<ps.length→σ i<ps.length∧τ i<ps.length∧σ (τ i)=i∧τ (σ i)=i∧ps'.getD i default=ps.getD (σ i) default
section
variable {l:List Sg} {ps ps':List Pr} {σ:Nat→Nat}
def Same (ps ps':List Pr) (i j:Nat):Prop:=ps'.getD i default=ps.getD j default
theorem wrB_same {i j:Nat} (h:Same ps ps' i j) (s:Nat):wrB l ps' i s=wrB l ps j s:=by unfold wrB;rw [h]
theorem rdB_same {i j:Nat} (h:Same ps ps' i j) (s:Nat):rdB l ps' i s=rdB l ps j s:=by unfold rdB;rw [h]
theorem nowB_same {i j:Nat} (h:Same ps ps' i j) (s:Nat):nowB l ps' i s=nowB l ps j s:=by unfold nowB;rw [h]
theorem laterB_same {i j:Nat} (h:Same ps ps' i j) (s:Nat):laterB l ps' i s=laterB l ps j s:=by unfold laterB;rw [h]
theorem kinds_turn (ht:Turn ps ps') (h:kindsC l ps):kindsC l ps':=by
 obtain ⟨σ,τ,hs⟩:=ht.ex
 intro i hi
 rw [ht.len] at hi
 have:=h (σ i) (hs i hi).1
 dsimp only at this ⊢
 rw [(hs i hi).2.2.2.2]
 exact this
theorem meetP_comm (a b:List Bool):meetP a b=meetP b a:=by
 rw [Bool.eq_iff_iff]
 have key:∀ a b:List Bool,meetP a b=true→meetP b a=true:=λ a b h=>by
  by_cases hb:meetP b a=true
  ·exact hb
  ·exfalso
   have hno:meetP a b=false:=meetP_no λ j h1 h2=>by
    cases hx:(a.getD j false && b.getD j false) with
    | false=>rfl
    | true =>
     rw [Bool.and_eq_true] at hx
     exact absurd (meetP_yes (i:=j) h2 h1 hx.2 hx.1) hb
   rw [hno] at h;cases h
 exact ⟨key a b,key b a⟩
def drvU (l:List Sg) (ps:List Pr) (il:List Int):Prop :=
 (∀ i s,i<ps.length→s<l.length→(wrB l ps i s).isEmpty=false→il.contains (s:Int)=false) ∧
 ∀ i k s,i<ps.length→k<ps.length→i≠k→s<l.length→(wrB l ps i s).isEmpty=false→(wrB l ps k s).isEmpty=false→(ps.getD i default).kind=1∧(ps.getD k default).kind=1∧meetP (wrB l ps i s) (wrB l ps k s)=false
theorem drvK_iff {i s k:Nat}:drvK l ps i s k=false↔((wrB l ps k s).isEmpty=false→(ps.getD i default).kind=1∧(ps.getD k default).kind=1∧meetP (wrB l ps i s) (wrB l ps k s)=false):=by
 unfold drvK
 cases (wrB l ps k s).isEmpty <;> simp [and_assoc]
theorem drives_iff {il:List Int}:drivesC l ps il↔drvU l ps il:=by
 constructor
 ·intro h
  refine ⟨λ i s hi hs hw=>(h i hi s hs hw).1,λ i k s hi hk hne hs hw hw2 => ?_⟩
  rcases Nat.lt_or_gt_of_ne hne with hlt | hgt
  ·have:=drvK_iff.1 ((h k hk s hs hw2).2 i hlt) hw
   exact ⟨this.2.1,this.1,by rw [meetP_comm];exact this.2.2⟩
  ·exact drvK_iff.1 ((h i hi s hs hw).2 k hgt) hw2
 ·intro h i hi s hs hw
  exact ⟨h.1 i s hi hs hw,λ k hk=>drvK_iff.2 λ hw2=>h.2 i k s hi (by omega) (by omega) hs hw hw2⟩
theorem drvU_turn {il:List Int} (ht:Turn ps ps') (h:drvU l ps il):drvU l ps' il:=by
 obtain ⟨σ,τ,hs⟩:=ht.ex
 refine ⟨λ i s hi hsl hw => ?_,λ i k s hi hk hne hsl hw hw2 => ?_⟩
 ·rw [ht.len] at hi
  have e:Same ps ps' i (σ i):=(hs i hi).2.2.2.2
  rw [wrB_same e] at hw
  exact h.1 _ s (hs i hi).1 hsl hw
 ·rw [ht.len] at hi hk
  have e:Same ps ps' i (σ i):=(hs i hi).2.2.2.2
  have e2:Same ps ps' k (σ k):=(hs k hk).2.2.2.2
  rw [wrB_same e] at hw ⊢
  rw [wrB_same e2] at hw2 ⊢
  have:=h.2 _ _ s (hs i hi).1 (hs k hk).1 (λ e=>hne (by rw [←(hs i hi).2.2.2.1,e,(hs k hk).2.2.2.1])) hsl hw hw2
  unfold Same at e e2
  rw [e,e2]
  exact this
theorem roleA_none {s:Nat}:∀ n,(∀ i,i<n→(wrB l ps i s).isEmpty=true)→roleA l ps n s=0
 | 0,_=>rfl
 | n+1,h=>by rw [roleA,h n (by omega)];unfold roleV;rw [if_pos rfl];exact roleA_none n λ i hi=>h i (by omega)
def rv (kd:Nat) (ne:Bool):Int:=if kd=3 then (if ne then 3 else 4) else 2
theorem roleA_some {il:List Int} {s:Nat} (hd:drvU l ps il) (hs:s<l.length):∀ n,n≤ps.length→∀ i,i<n→(wrB l ps i s).isEmpty=false→roleA l ps n s=rv (ps.getD i default).kind (nowB l ps i s).isEmpty
 | 0,_,i,hi,_=>absurd hi (Nat.not_lt_zero _)
 | n+1,hn,i,hi,hw=>by
  rw [roleA]
  cases hz:(wrB l ps n s).isEmpty with
  | true =>
   have:i≠n:=λ e=>by subst e;rw [hz] at hw;cases hw
   unfold roleV;rw [if_pos rfl]
   exact roleA_some hd hs n (by omega) i (by omega) hw
  | false =>
   unfold roleV
   rw [if_neg (by simp)]
   by_cases e:i=n
   ·subst e;rfl
   ·have:=hd.2 i n s (by omega) (by omega) e hs hw hz
    unfold rv
    rw [this.1,this.2.1]
    rfl
theorem roleA_turn {il:List Int} (ht:Turn ps ps') (hd:drvU l ps il) {s:Nat} (hs:s<l.length):roleA l ps' ps'.length s=roleA l ps ps.length s:=by
 have hd':=drvU_turn ht hd
 obtain ⟨σ,τ,hst⟩:=ht.ex
 by_cases hex:∃ i,i<ps.length∧(wrB l ps i s).isEmpty=false
 ·obtain ⟨i,hi,hw⟩:=hex
  have e:Same ps ps' (τ i) i:=by
   have:=(hst (τ i) (hst i hi).2.1).2.2.2.2
   unfold Same;rw [this,(hst i hi).2.2.1]
  rw [roleA_some hd hs _ (Nat.le_refl _) i hi hw,roleA_some hd' hs _ (Nat.le_refl _) (τ i) (by rw [ht.len];exact (hst i hi).2.1) (by rw [wrB_same e];exact hw),nowB_same e]
  unfold Same at e
  rw [e]
 ·have hno:∀ i,i<ps.length→(wrB l ps i s).isEmpty=true:=λ i hi=>by
   cases h:(wrB l ps i s).isEmpty with
   | true=>rfl
   | false=>exact absurd ⟨i,hi,h⟩ hex
  rw [roleA_none _ hno,roleA_none _ λ i hi => ?_]
  rw [ht.len] at hi
  have e:Same ps ps' i (σ i):=(hst i hi).2.2.2.2
  rw [wrB_same e]
  exact hno _ (hst i hi).1
theorem roles_turn {il:List Int} (ht:Turn ps ps') (hd:drvU l ps il):rolesP l ps' il=rolesP l ps il:=by
 unfold rolesP
 refine List.map_congr_left λ s hs => ?_
 unfold roleF roleW
 rw [roleA_turn ht hd (List.mem_range.1 hs)]
theorem races_turn {rl:List Int} (ht:Turn ps ps') (h:racesC l ps rl):racesC l ps' rl:=by
 obtain ⟨σ,τ,hs⟩:=ht.ex
 intro i hi s hsl
 rw [ht.len] at hi
 have e:Same ps ps' i (σ i):=(hs i hi).2.2.2.2
 have:=h (σ i) (hs i hi).1 s hsl
 dsimp only at this ⊢
 unfold raceS at this ⊢
 rw [nowB_same e,laterB_same e,rdB_same e,wrB_same e]
 exact this
theorem latches_turn (ht:Turn ps ps') (h:latchesC l ps):latchesC l ps':=by
 obtain ⟨σ,τ,hs⟩:=ht.ex
 intro i hi
 rw [ht.len] at hi
 have:=h (σ i) (hs i hi).1
 dsimp only at this ⊢
 unfold latP at this ⊢
 rw [(hs i hi).2.2.2.2]
 exact this
theorem whole_iff {s:Nat}:∀ n,wholeP l ps s n=true↔∃ i,i<n∧(wrB l ps i s).isEmpty=false∧(ps.getD i default).kind≠1
 | 0=>by simp [wholeP]
 | n+1=>by
  rw [wholeP,Bool.or_eq_true,whole_iff n]
  constructor
  ·rintro (⟨i,hi,h⟩ | h)
   ·exact ⟨i,by omega,h⟩
   ·exact ⟨n,by omega,by simpa using h⟩
  ·rintro ⟨i,hi,h1,h2⟩
   by_cases e:i=n
   ·subst e;right;rw [h1,decide_eq_false h2];rfl
   ·exact .inl ⟨i,by omega,h1,h2⟩
theorem all_iff {s wd:Nat} {j:Nat}:∀ n,(∀ i,(wrB l ps i s).length≤wd)→((allP l ps s wd n).getD j false=true↔∃ i,i<n∧j<wd∧(wrB l ps i s).getD j false=true)
 | 0,_=>by
  rw [allP]
  have:(List.replicate wd false).getD j false=false:=by rw [List.getD,List.getElem?_replicate];split <;> rfl
  rw [this];simp
 | n+1,hl=>by
  rw [allP]
  by_cases hj:j<wd
  ·have e:(orT (allP l ps s wd n) (wrB l ps n s) (wrB l ps n s).length).getD j false=((allP l ps s wd n).getD j false || (decide (j<(wrB l ps n s).length) && (wrB l ps n s).getD j false)):=by
    rw [List.getD,orT_at _ _ _ (by rw [allP_len];exact hj)];rfl
   rw [e,Bool.or_eq_true,all_iff n hl]
   constructor
   ·rintro (⟨i,hi,h⟩ | h)
    ·exact ⟨i,by omega,h⟩
    ·rw [Bool.and_eq_true] at h;exact ⟨n,by omega,hj,h.2⟩
   ·rintro ⟨i,hi,_,h⟩
    by_cases e2:i=n
    ·subst e2
     right
     rw [Bool.and_eq_true]
     refine ⟨?_,h⟩
     rw [decide_eq_true_eq]
     refine Nat.lt_of_not_le λ hle => ?_
     rw [List.getD,List.getElem?_eq_none hle] at h;cases h
    ·exact .inl ⟨i,by omega,hj,h⟩
  ·constructor
   ·intro h
    rw [List.getD,List.getElem?_eq_none (by rw [orT_len,allP_len];omega)] at h;cases h
   ·rintro ⟨i,_,h,_⟩;exact absurd h hj
theorem us_atB {a:List Bool} {n j:Nat} (hl:a.length=n) (hj:j<n):a[j]? = some (a.getD j false):=by
 rw [List.getD,List.getElem?_eq_getElem (by omega)];rfl
theorem und_turn {base:Nat} {w:World} {p:Option Addr} {c:Nat} (hg:SgsM base w p c l) (hw1:∀ y∈l,y.size≤y.w∧y.w≤1000) {rl:List Int} (ht:Turn ps ps') (h:undC l ps rl):undC l ps' rl:=by
 obtain ⟨σ,τ,hst⟩:=ht.ex
 intro s hs
 have hs0:=h s hs
 dsimp only at hs0 ⊢
 unfold undS at hs0 ⊢
 refine ⟨hs0.1,λ h2 => ?_⟩
 have hold:=hs0.2 h2
 have hmap:∀ (P:Nat→List Pr→Prop),(∀ i j,Same ps ps' i j→(P i ps'↔P j ps))→((∃ i,i<ps'.length∧P i ps')↔∃ i,i<ps.length∧P i ps):=λ P hP=>by
  constructor
  ·rintro ⟨i,hi,h⟩
   rw [ht.len] at hi
   exact ⟨σ i,(hst i hi).1,(hP i (σ i) (hst i hi).2.2.2.2).1 h⟩
  ·rintro ⟨i,hi,h⟩
   have e:Same ps ps' (τ i) i:=by
    have:=(hst (τ i) (hst i hi).2.1).2.2.2.2
    unfold Same;rw [this,(hst i hi).2.2.1]
   exact ⟨τ i,by rw [ht.len];exact (hst i hi).2.1,(hP _ _ e).2 h⟩
 have hwh:wholeP l ps' s ps'.length=wholeP l ps s ps.length:=by
  rw [Bool.eq_iff_iff,whole_iff,whole_iff]
  exact hmap (λ i q=>(wrB l q i s).isEmpty=false∧(q.getD i default).kind≠1) λ i j e=>by
   rw [wrB_same e];unfold Same at e;rw [e]
 have hle:∀ q:List Pr,∀ i,(wrB l q i s).length≤(l.getD s default).w:=λ q i=>by
  obtain ⟨y,hy⟩:∃ y,l[s]? = some y:=⟨_,List.getElem?_eq_getElem hs⟩
  rw [List.getD,hy]
  exact Nat.le_trans (wrB_le hg q i s hy) (hw1 y (List.mem_of_getElem? hy)).1
 have hal:allP l ps' s (l.getD s default).w ps'.length=allP l ps s (l.getD s default).w ps.length:=by
  apply List.ext_getElem?
  intro j
  by_cases hj:j<(l.getD s default).w
  ·have e1:=us_atB (allP_len l ps' s (l.getD s default).w ps'.length) hj
   have e2:=us_atB (allP_len l ps s (l.getD s default).w ps.length) hj
   rw [e1,e2]
   congr 1
   rw [Bool.eq_iff_iff,all_iff _ (hle ps'),all_iff _ (hle ps)]
   exact hmap (λ i q=>j<(l.getD s default).w∧(wrB l q i s).getD j false=true) λ i k e=>by rw [wrB_same e]
  ·rw [List.getElem?_eq_none (by rw [allP_len];omega),List.getElem?_eq_none (by rw [allP_len];omega)]
 rw [hwh,hal]
 exact hold
theorem leads_turn (hs:∀ i,i<ps.length→Same ps ps' i (σ i)) (hinj:∀ i k,i<ps.length→k<ps.length→(i=k↔σ i=σ k)) {i k:Nat} (hi:i<ps.length) (hk:k<ps.length):leadsP l ps' i k=leadsP l ps (σ i) (σ k):=by
 have e1:=hs i hi
 have e2:=hs k hk
 unfold Same at e1 e2
 unfold leadsP
 rw [e1,e2]
 have:=hinj i k hi hk
 simp only [this]
theorem wy_turn (hl:ps'.length=ps.length) (hst:∀ i,i<ps.length→σ i<ps.length) (hs:∀ i,i<ps.length→Same ps ps' i (σ i)) (hinj:∀ i k,i<ps.length→k<ps.length→(i=k↔σ i=σ k)) {i k:Nat} (h:Wy l ps' i k) (hi:i<ps.length):Wy l ps (σ i) (σ k):=by
 induction h with
 | one hk hld =>
  rw [hl] at hk
  exact .one (hst _ hk) (by rw [←leads_turn hs hinj hi hk];exact hld)
 | more hj hld _ ih =>
  rw [hl] at hj
  exact .more (hst _ hj) (by rw [←leads_turn hs hinj hi hj];exact hld) (ih hj)
theorem loop_turn (ht:Turn ps ps') (h:loopC l ps):loopC l ps':=by
 obtain ⟨σ,τ,hst⟩:=ht.ex
 intro i hi
 rw [ht.len] at hi
 intro hk hw
 have e:=(hst i hi).2.2.2.2
 have:=h (σ i) (hst i hi).1
 dsimp only at this hk hw
 refine this (by rw [←e];exact hk) (wy_turn ht.len (λ i hi=>(hst i hi).1) (λ i hi=>(hst i hi).2.2.2.2) (λ i k hi hk=>⟨λ e=>by rw [e],λ e=>by rw [←(hst i hi).2.2.2.1,e,(hst k hk).2.2.2.1]⟩) hw hi)
theorem allC_turn {base:Nat} {w:World} {p:Option Addr} {c:Nat} (hg:SgsM base w p c l) (hw1:∀ y∈l,y.size≤y.w∧y.w≤1000) {il:List Int} {sts:List (Nat × List Bool)} (ht:Turn ps ps') (h:AllC l ps il sts):AllC l ps' il sts∧rolesP l ps' il=rolesP l ps il:=by
 obtain ⟨h1,h2,h3,h4,h5,h6,h7⟩:=h
 have hd:=drives_iff.1 h2
 have hr:=roles_turn ht hd
 refine ⟨⟨kinds_turn ht h1,drives_iff.2 (drvU_turn ht hd),?_,?_,latches_turn ht h5,loop_turn ht h6,?_⟩,hr⟩
 ·rw [hr];exact races_turn ht h3
 ·rw [hr];exact und_turn hg hw1 ht h4
 ·rw [hr];exact h7
end
theorem nodup_le:∀ (a b:List Nat),a.Nodup→(∀ x∈a,x∈b)→a.length≤b.length
 | [],b,_,_=>Nat.zero_le _
 | x::a,b,hn,hs=>by
  rw [List.nodup_cons] at hn
  have hx:=hs x List.mem_cons_self
  have:=nodup_le a (b.erase x) hn.2 λ y hy=>by
   have hne:y≠x:=λ e=>hn.1 (e ▸ hy)
   exact (List.mem_erase_of_ne hne).2 (hs y (List.mem_cons_of_mem _ hy))
  rw [List.length_erase_of_mem hx] at this
  have hp:=List.length_pos_of_mem hx
  simp only [List.length_cons]
  omega
theorem pigeon {n:Nat} (f:Nat→Nat) (hf:∀ m,f m<n):∃ a b,a<b∧f a=f b:=by
 apply Classical.byContradiction
 intro hno
 have hinj:∀ a b,a<b→f a≠f b:=λ a b h e=>hno ⟨a,b,h,e⟩
 have hnd:((List.range (n+1)).map f).Nodup:=by
  rw [List.nodup_iff_pairwise_ne,List.pairwise_map]
  exact List.pairwise_lt_range.imp λ h=>hinj _ _ h
 have:=nodup_le _ (List.range n) hnd λ x hx=>by
  obtain ⟨m,_,rfl⟩:=List.mem_map.1 hx
  exact List.mem_range.2 (hf m)
 simp at this
 omega
section
variable {l:List Sg} {ps:List Pr} {dn:List Bool} {out:List Nat}
theorem frK_of:∀ (n:Nat) {i:Nat},dn.getD i false=false→(ps.getD i default).kind≠3→(∀ k,k<n→leadsP l ps k i=true→dn.getD k false=true)→frK l ps dn i n=true
 | 0,i,h1,h2,_=>by unfold frK;rw [h1,decide_eq_false h2];rfl
 | n+1,i,h1,h2,h3=>by
  unfold frK
  rw [frK_of n h1 h2 λ k hk=>h3 k (by omega),Bool.true_and]
  cases hl:leadsP l ps n i with
  | false=>simp
  | true=>rw [h3 n (by omega) hl];rfl
theorem leads_kind {i k:Nat} (h:leadsP l ps i k=true):(ps.getD i default).kind≠3:=λ e=>by
 rw [leadsP_no (.inl e)] at h;cases h
theorem ordI_all (ho:OrdI l ps dn out) (hf:∀ i,i<ps.length→frK l ps dn i ps.length=false) (hc:loopC l ps) {i:Nat} (hi:i<ps.length) (hk:(ps.getD i default).kind≠3):i∈out:=by
 rw [←ho.mem]
 apply Classical.byContradiction
 intro hn
 have hstep:∀ j,(j<ps.length∧(ps.getD j default).kind≠3∧dn.getD j false=false)→∃ k,(k<ps.length∧(ps.getD k default).kind≠3∧dn.getD k false=false)∧leadsP l ps k j=true:=λ j ⟨h1,h2,h3⟩=>by
  apply Classical.byContradiction
  intro hno
  have:=frK_of ps.length h3 h2 λ k hkl hld=>by
   cases hd:dn.getD k false with
   | true=>rfl
   | false=>exact absurd ⟨k,⟨hkl,leads_kind hld,hd⟩,hld⟩ hno
  rw [hf j h1] at this;cases this
 let P := { j:Nat // j<ps.length∧(ps.getD j default).kind≠3∧dn.getD j false=false}
 let nx:P→P:=λ j=>⟨Classical.choose (hstep j.1 j.2),(Classical.choose_spec (hstep j.1 j.2)).1⟩
 have hnx:∀ j:P,leadsP l ps (nx j).1 j.1=true:=λ j=>(Classical.choose_spec (hstep j.1 j.2)).2
 let s:Nat→P:=λ m=>Nat.rec ⟨i,hi,hk,by simpa using hn⟩ (λ _ j=>nx j) m
 have hs:∀ m,leadsP l ps (s (m+1)).1 (s m).1=true:=λ m=>hnx (s m)
 have hw:∀ d a,Wy l ps (s (a+d+1)).1 (s a).1:=λ d=>by
  induction d with
  | zero=>exact λ a => .one (s a).2.1 (hs a)
  | succ d ih=>exact λ a => .more (s (a+d+1)).2.1 (hs (a+d+1)) (ih a)
 obtain ⟨a,b,hab,he⟩:=pigeon (λ m=>(s m).1) (λ m=>(s m).2.1)
 have:=hw (b-a-1) a
 rw [show a+(b-a-1)+1=b by omega,show (s b).1=(s a).1 from he.symm] at this
 exact hc _ (s a).2.1 (s a).2.2.1 this
theorem ordI_mem (ho:OrdI l ps dn out) (hf:∀ i,i<ps.length→frK l ps dn i ps.length=false) (hc:loopC l ps) (i:Nat):i∈out↔i<ps.length∧(ps.getD i default).kind≠3 :=
 ⟨ho.ok i,λ h=>ordI_all ho hf hc h.1 h.2⟩
theorem ordI_len {ps':List Pr} {dn':List Bool} {out':List Nat} (ht:Turn ps ps') (ho:OrdI l ps dn out) (hf:∀ i,i<ps.length→frK l ps dn i ps.length=false) (hc:loopC l ps)
  (ho':OrdI l ps' dn' out') (hf':∀ i,i<ps'.length→frK l ps' dn' i ps'.length=false) (hc':loopC l ps'):out'.length=out.length:=by
 obtain ⟨σ,τ,hst⟩:=ht.ex
 have h1:(out'.map σ).length≤out.length:=by
  refine nodup_le _ _ ?_ λ x hx => ?_
  ·rw [List.nodup_iff_pairwise_ne,List.pairwise_map]
   refine (List.nodup_iff_pairwise_ne.1 ho'.nd).imp_of_mem λ {a b} ha hb hne e=>hne ?_
   have hia:=(ho'.ok a ha).1
   have hib:=(ho'.ok b hb).1
   rw [ht.len] at hia hib
   rw [←(hst a hia).2.2.2.1,e,(hst b hib).2.2.2.1]
  ·obtain ⟨a,ha,rfl⟩:=List.mem_map.1 hx
   obtain ⟨hia,hka⟩:=ho'.ok a ha
   rw [ht.len] at hia
   exact ordI_all ho hf hc (hst a hia).1 (by rw [←(hst a hia).2.2.2.2];exact hka)
 have h2:(out.map τ).length≤out'.length:=by
  refine nodup_le _ _ ?_ λ x hx => ?_
  ·rw [List.nodup_iff_pairwise_ne,List.pairwise_map]
   refine (List.nodup_iff_pairwise_ne.1 ho.nd).imp_of_mem λ {a b} ha hb hne e=>hne ?_
   rw [←(hst a (ho.ok a ha).1).2.2.1,e,(hst b (ho.ok b hb).1).2.2.1]
  ·obtain ⟨a,ha,rfl⟩:=List.mem_map.1 hx
   obtain ⟨hia,hka⟩:=ho.ok a ha
   refine ordI_all ho' hf' hc' (by rw [ht.len];exact (hst a hia).2.1) ?_
   rw [(hst (τ a) (hst a hia).2.1).2.2.2.2,(hst a hia).2.2.1]
   exact hka
 rw [List.length_map] at h1 h2
 omega
end
def turned (ps:List Pr) (d:Nat):List Pr:=(List.range ps.length).map λ i=>ps.getD ((i+d) % ps.length) default
theorem turned_len (ps:List Pr) (d:Nat):(turned ps d).length=ps.length:=by simp [turned]
theorem turned_at (ps:List Pr) (d:Nat) {i:Nat} (hi:i<ps.length):(turned ps d)[i]? = some (ps.getD ((i+d) % ps.length) default):=by
 unfold turned;rw [List.getElem?_map,List.getElem?_range hi];rfl
theorem turned_turn (ps:List Pr) {d:Nat} (hd:d≤ps.length):Turn ps (turned ps d):=by
 refine ⟨turned_len ps d,λ i=>(i+d) % ps.length,λ i=>(i+(ps.length-d)) % ps.length,λ i hi => ?_⟩
 have hp:0<ps.length:=by omega
 refine ⟨Nat.mod_lt _ hp,Nat.mod_lt _ hp,?_,?_,?_⟩
 ·show ((i+(ps.length-d)) % ps.length+d) % ps.length=i
  rw [Nat.mod_add_mod,show i+(ps.length-d)+d=i+ps.length by omega,Nat.add_mod_right,Nat.mod_eq_of_lt hi]
 ·show ((i+d) % ps.length+(ps.length-d)) % ps.length=i
  rw [Nat.mod_add_mod,show i+d+(ps.length-d)=i+ps.length by omega,Nat.add_mod_right,Nat.mod_eq_of_lt hi]
 ·rw [List.getD,turned_at ps d hi];rfl
def awH:SH:=⟨1,0,0,2,0,.nil,⟨2,2,1,0⟩,.nil⟩
def awB:SL := .cons awH .nil .nil .nil
def awL:List Sg := [⟨⟨#[121]⟩,2,false,0⟩,⟨⟨#[97]⟩,2,false,0⟩]
def awP:List Pr := [⟨1,0,0,0,awB⟩]
theorem aw_flat:flatS awB = [awH]:=rfl
theorem aw_roles:rolesP awL awP [1] = [2,1]:=by decide
theorem aw_leads:leadsP awL awP 0 0=false:=by decide
theorem aw_wy:¬Wy awL awP 0 0:=λ h=>by
 have key:∀ i k,Wy awL awP i k→i≠0:=λ i k h=>by
  cases h with
  | one hk hl =>
   intro e;subst e
   have:k=0:=by have:awP.length=1:=rfl;omega
   subst this
   rw [aw_leads] at hl;cases hl
  | more hj hl hw =>
   rename_i j
   intro e;subst e
   have:j=0:=by have:awP.length=1:=rfl;omega
   subst this
   rw [aw_leads] at hl;cases hl
 exact key _ _ h rfl
theorem aw_all:AllC awL awP [1] []:=by
 refine ⟨λ i hi => ?_,λ i hi => ?_,?_,?_,λ i hi => ?_,λ i hi => ?_,λ i hi=>absurd hi (Nat.not_lt_zero _)⟩
 ·obtain rfl:i=0:=by have:awP.length=1:=rfl;omega
  intro y hy
  have e:y=awH:=by simpa [awP,aw_flat] using hy
  subst e
  exact ⟨by decide,λ _=>by decide⟩
 ·obtain rfl:i=0:=by have:awP.length=1:=rfl;omega
  intro s hs
  have hs2:s<2:=hs
  refine λ hw=>⟨?_,λ k hk=>absurd hk (Nat.not_lt_zero _)⟩
  rcases s with _ | _ | s
  ·decide
  ·exfalso;revert hw;decide
  ·omega
 ·intro i hi
  obtain rfl:i=0:=by have:awP.length=1:=rfl;omega
  intro s hs
  have hs2:s<2:=hs
  rw [aw_roles]
  rcases s with _ | _ | s
  ·exact ⟨by decide,by decide⟩
  ·exact ⟨by decide,by decide⟩
  ·omega
 ·intro s hs
  have hs2:s<2:=hs
  rw [aw_roles]
  rcases s with _ | _ | s
  ·exact ⟨by decide,λ _=>by decide⟩
  ·exact ⟨by decide,λ h=>absurd h (by decide)⟩
  ·omega
 ·obtain rfl:i=0:=by have:awP.length=1:=rfl;omega
  intro h
  exact absurd h (by decide)
 ·obtain rfl:i=0:=by have:awP.length=1:=rfl;omega
  exact λ _=>aw_wy
theorem aw_order {dn:List Bool} {out:List Nat} (ho:OrdI awL awP dn out) (hf:∀ i,i<awP.length→frK awL awP dn i awP.length=false):out.length=1:=by
 have hm:=ordI_mem ho hf aw_all.2.2.2.2.2.1
 have h1 : [0].length≤out.length:=nodup_le [0] out (by simp) λ x hx=>by
  obtain rfl:x=0:=by simpa using hx
  exact (hm 0).2 ⟨by decide,by decide⟩
 have h2:out.length ≤ [0].length:=nodup_le out [0] ho.nd λ x hx=>by
  have:=((hm x).1 hx).1
  have:x=0:=by have:awP.length=1:=rfl;omega
  simp [this]
 simp only [List.length_singleton] at h1 h2
 omega
open Go.RowKit Go.Sort
def ShortR (w:World) (nb:Nat) (bl:List UInt8) (e:Ending) (w':World):Prop:=∃ (p:Option Addr) (n c:Nat),e = .returned (.slice p n c)∧n≤400∧n≤nb∧ROA (λ k=>k<w.heap.size) w (.slice p n c) 1 n (byteCells (bl.take n))∧w'=w
set_option maxRecDepth 100000 in
theorem short_any {w:World} {p:Option Addr} {nb c:Nat} {bl:List UInt8} (hb:ROA (λ k=>k<w.heap.size) w (.slice p nb c) 1 nb (byteCells bl)) (hl:bl.length=nb) :
  Calls Try.prog 6 #[.slice p nb c] w (ShortR w nb bl):=by
 have hcap:=hb.cap
 by_cases h4:nb≤400
 ·have hi:¬(400:Int)<(nb:Int):=by omega
  have H:=Lib.hid (And.intro hb (And.intro hl h4))
  clear hb hl h4 hcap
  go_enter Try.func6,Try.ntmps6
  go_wp2_with fail
  go_ret
  exact ⟨p,nb,c,rfl,H.out.2.2,Nat.le_refl _,by rw [←H.out.2.1,List.take_length,H.out.2.1];exact H.out.1,rfl⟩
 ·have hi:(400:Int)<(nb:Int):=by omega
  have hc1:(400:Int)≤(c:Int):=by omega
  have hc2:¬c=400∨c=400:=by omega
  have hcell:∀ v,(v = .slice p 400 c)→ROA (λ k=>k<w.heap.size) w v 1 400 (byteCells (bl.take 400)):=λ v hv=>by
   subst hv
   obtain ⟨h1,p',c',e,h5,h3⟩:=hb
   cases e
   refine ⟨by simp [byteCells];omega,_,_,rfl,by omega,λ j u hj=>h3 j u ?_⟩
   rw [byteCells,List.map_take] at hj
   rw [List.getElem?_take] at hj
   split at hj
   ·exact hj
   ·cases hj
  have H:=Lib.hid (And.intro hcell (show 400≤nb by omega))
  clear hb hl h4 hcap hcell
  go_enter Try.func6,Try.ntmps6
  go_wp2_with fail
  go_ret
  exact ⟨p,400,c,rfl,Nat.le_refl _,H.out.2,H.out.1 _ rfl,rfl⟩
set_option maxRecDepth 100000 in
set_option maxHeartbeats 4000000 in
theorem pints_any {w:World} {p1 p2:Option Addr} {n1 c1 n2 c2:Nat} {l1 l2:List Int} (h1:RO w (.slice p1 n1 c1) 1 n1 (ints l1)) (h2:RO w (.slice p2 n2 c2) 1 n2 (ints l2)) (he:l1=l2) (hn:n1≤1000000) :
  Calls Try.prog 10 #[.slice p1 n1 c1,.slice p2 n2 c2] w λ e w'=>e = .returned (.bool true)∧Below w.heap.size w w':=by
 subst he
 have hl1:l1.length=n1:=by have:=h1.1;simpa [ints] using this
 have hl2:l1.length=n2:=by have:=h2.1;simpa [ints] using this
 obtain rfl:n1=n2:=by omega
 have H:=Lib.hid (And.intro h1 (And.intro h2 (And.intro hl1 hn)))
 clear h1 h2 hl1 hl2 hn
 go_enter Try.func10,Try.ntmps10
 go_wp2_with fail
 go_loopw [13] (λ iv wr=>∃ i:Nat,iv = .int .i64 i∧i≤n1∧Below w.heap.size w wr) (λ iv _=>n1-(intOf iv).toNat)
 case atStart=>exact ⟨0,rfl,Nat.zero_le _,Below.refl _ _⟩
 case round =>
  obtain ⟨i,rfl,hin,hbr⟩:=hrel
  by_cases hlt:i<n1
  ·have hii:(i:Int)<(n1:Int):=by omega
   have hi0:(0:Int)≤(i:Int):=by omega
   have hiw:IntKind.i64.wrap ((i:Int)+1)=((i+1:Nat):Int):=by rw [i64_of (by have:=H.out.2.2.2;omega)];rfl
   have hx:=intsD_at l1 (s:=i) (by rw [H.out.2.2.1];exact hlt)
   obtain ⟨b1,o1,rfl⟩:=H.out.1.sl hx
   obtain ⟨b2,o2,rfl⟩:=H.out.2.1.sl hx
   have c0:=(H.out.1.below hbr).cell hx
   have d0:=(H.out.2.1.below hbr).cell hx
   generalize l1.getD i 0=y at *
   have HB:=Lib.hid (And.intro (Below.trans hbr ((Below.refl _ _).drew:Below w.heap.size wr wr.drew)) hlt)
   clear hbr hlt hin hx
   go_upto_region 6 with fail
   refine wp_region_still_tail 8 (by kernel_rfl) (by kernel_rfl) ?_
   simp only [List.take_succ_cons,List.take_zero,List.drop_succ_cons,List.drop_zero]
   change wpStill _ _ wr.drew (λ a'=>wpList _ _ _ _ a' wr.drew) _ _
   replace c0:wr.drew.cell? _=_:=c0
   replace d0:wr.drew.cell? _=_:=d0
   generalize wr.drew=wz at *
   refine WS.out ?_
   iterate 8 (refine ws_step (λ K hK => ?_);go_simp;refine hK _ ?_;clear hK K)
   refine ws_nil ?_
   clear c0 d0
   go_wp2_with fail
   go_roundw
   case measure=>simp [intOf];have:=HB.out.2;omega
   case rel=>exact ⟨i+1,by go_num,HB.out.2,HB.out.1⟩
  ·obtain rfl:n1=i:=by omega
   have hii:¬(n1:Int)<(n1:Int):=by omega
   have HB:=Lib.hid hbr
   clear hlt hin hbr
   go_wp2_with fail
   go_ret
   exact ⟨rfl,HB.out⟩
def awSg:List Value := [.string ⟨#[121]⟩,.int .i64 2,.bool false,.int .i64 0,.string ⟨#[97]⟩,.int .i64 2,.bool false,.int .i64 0]
def awSt:List Value := [.int .i64 1,.int .i64 0,.int .i64 0,.int .i64 0,.int .i64 0,.int .i64 0,.int .i64 2,.slice none 0 0,.int .i64 2,.int .i64 0,.int .i64 2,.int .i64 1,.int .i64 0,.bool false,.int .i64 0,.slice none 0 0,.slice none 0 0,.slice none 0 0,.slice none 0 0,.int .i64 0]
theorem blk_roa {w:World} {b t size n:Nat} {l:List Value} (h:Blk w b t l) (hl:l.length=n*size):ROA (λ k=>k<w.heap.size) w (.slice (some ⟨b,0,none⟩) n n) size n l :=
 ⟨hl,_,_,rfl,Nat.le_refl _,λ j u hj=>⟨b,0,rfl,h.lt,by rw [Nat.zero_add];exact h.cell hj⟩⟩
set_option maxRecDepth 100000 in
theorem aw_dd {w:World} {b0 b1 b2 b3:Nat} (h0:Blk w b0 54 awSg) (h1:Blk w b1 3 [.int .i64 1]) (h2:Blk w b2 64 awSt) (h3:Blk w b3 49 [.int .i64 1,.int .i64 0,.int .i64 0,.int .i64 0,.slice (some ⟨b2,0,none⟩) 1 1]) :
  DD w.heap.size w ⟨some ⟨b0,0,none⟩,2,none,0,0,some ⟨b1,0,none⟩,1,none,0,0,some ⟨b3,0,none⟩,1,none,0,0,none,0,none,0,none,0⟩ awL awP [1] []:=by
 refine ⟨⟨blk_roa (n:=2) h0 rfl,by decide,by decide,by decide⟩,blk_roa (n:=1) h1 rfl,by decide,⟨_,blk_roa (n:=1) h3 rfl,?_⟩,⟨[],ROA.nil⟩,⟨[],ROA.nil,rfl⟩,λ q hq => ?_,by decide,by decide⟩
 ·refine ⟨.slice (some ⟨b2,0,none⟩) 1 1,awSt, [],rfl,blk_roa (n:=1) h2 rfl,?_,rfl⟩
  refine ⟨.slice none 0 0, [],fcells ⟨2,2,1,0⟩ 0 false 0 (.slice none 0 0) (.slice none 0 0),.slice none 0 0, [],.slice none 0 0, [], [],rfl,?_,ROA.nil,rfl,ROA.nil,rfl,ROA.nil,rfl,rfl⟩
  exact ⟨_,.slice none 0 0, [], [],(List.append_nil _).symm,rfl,⟨0,false,0,none,0,0,rfl⟩,ROA.nil,rfl,rfl⟩
 ·have e:q=⟨1,0,0,0,awB⟩:=by simpa [awP] using hq
  subst e
  refine ⟨⟨⟨by decide,by decide,by decide,by decide,by decide,by decide,trivial,?_⟩,by decide,by decide,trivial,trivial,trivial⟩,by decide⟩
  exact ⟨λ e=>absurd e (by decide),λ _=>by decide,by decide,by decide,by decide,by decide,by decide,trivial,trivial⟩
theorem aw_len:awL.length=2∧awP.length=1:=⟨rfl,rfl⟩
theorem aw_w:∀ y∈awL,y.size≤y.w∧y.w≤1000:=by decide
theorem aw_in:∀ v∈([1]:List Int),0≤v∧v<(awL.length:Int):=by decide
theorem aw_ana {w:World} {b0 b1 b2 b3:Nat} (h0:Blk w b0 54 awSg) (h1:Blk w b1 3 [.int .i64 1]) (h2:Blk w b2 64 awSt) (h3:Blk w b3 49 [.int .i64 1,.int .i64 0,.int .i64 0,.int .i64 0,.slice (some ⟨b2,0,none⟩) 1 1]) :
  Calls Try.prog 8 #[.agg #[.slice (some ⟨b0,0,none⟩) 2 2,.slice none 0 0,.slice (some ⟨b1,0,none⟩) 1 1,.slice none 0 0,.slice (some ⟨b3,0,none⟩) 1 1,.slice none 0 0,.slice none 0 0]] w (AnaR awL awP [1] [] w):=by
 have h:=analyze_any (aw_dd h0 h1 h2 h3) (Nat.le_refl _) aw_w aw_in (λ s hs=>by cases hs)
 rw [aw_len.1,aw_len.2] at h
 exact h
set_option maxRecDepth 100000 in
set_option maxHeartbeats 8000000 in
theorem awake_any (w:World):Calls Try.prog 4 #[] w λ e w'=>e = .returned (.bool true)∧Below w.heap.size w w':=by
 have n0:=Below.new w (.cells #[.string ⟨#[121]⟩,.int .i64 2,.bool false,.int .i64 0,.string ⟨#[97]⟩,.int .i64 2,.bool false,.int .i64 0] 54)
 have n1:=Below.new (w.alloc (.cells #[.string ⟨#[121]⟩,.int .i64 2,.bool false,.int .i64 0,.string ⟨#[97]⟩,.int .i64 2,.bool false,.int .i64 0] 54)) (.cells #[.int .i64 1] 3)
 have n2:=Below.new ((w.alloc (.cells #[.string ⟨#[121]⟩,.int .i64 2,.bool false,.int .i64 0,.string ⟨#[97]⟩,.int .i64 2,.bool false,.int .i64 0] 54)).alloc (.cells #[.int .i64 1] 3)) (.cells #[.int .i64 1,.int .i64 0,.int .i64 0,.int .i64 0,.int .i64 0,.int .i64 0,.int .i64 2,.slice none 0 0,.int .i64 2,.int .i64 0,.int .i64 2,.int .i64 1,.int .i64 0,.bool false,.int .i64 0,.slice none 0 0,.slice none 0 0,.slice none 0 0,.slice none 0 0,.int .i64 0] 64)
 have n3:=Below.new (((w.alloc (.cells #[.string ⟨#[121]⟩,.int .i64 2,.bool false,.int .i64 0,.string ⟨#[97]⟩,.int .i64 2,.bool false,.int .i64 0] 54)).alloc (.cells #[.int .i64 1] 3)).alloc (.cells #[.int .i64 1,.int .i64 0,.int .i64 0,.int .i64 0,.int .i64 0,.int .i64 0,.int .i64 2,.slice none 0 0,.int .i64 2,.int .i64 0,.int .i64 2,.int .i64 1,.int .i64 0,.bool false,.int .i64 0,.slice none 0 0,.slice none 0 0,.slice none 0 0,.slice none 0 0,.int .i64 0] 64)) (.cells #[.int .i64 1,.int .i64 0,.int .i64 0,.int .i64 0,.slice (some ⟨w.heap.size+1+1,0,none⟩) 1 1] 49)
 have n4:=Below.new ((((w.alloc (.cells #[.string ⟨#[121]⟩,.int .i64 2,.bool false,.int .i64 0,.string ⟨#[97]⟩,.int .i64 2,.bool false,.int .i64 0] 54)).alloc (.cells #[.int .i64 1] 3)).alloc (.cells #[.int .i64 1,.int .i64 0,.int .i64 0,.int .i64 0,.int .i64 0,.int .i64 0,.int .i64 2,.slice none 0 0,.int .i64 2,.int .i64 0,.int .i64 2,.int .i64 1,.int .i64 0,.bool false,.int .i64 0,.slice none 0 0,.slice none 0 0,.slice none 0 0,.slice none 0 0,.int .i64 0] 64)).alloc (.cells #[.int .i64 1,.int .i64 0,.int .i64 0,.int .i64 0,.slice (some ⟨w.heap.size+1+1,0,none⟩) 1 1] 49)) (.cells #[.slice (some ⟨w.heap.size,0,none⟩) 2 2,.slice none 0 0,.slice (some ⟨w.heap.size+1,0,none⟩) 1 1,.slice none 0 0,.slice (some ⟨w.heap.size+1+1+1,0,none⟩) 1 1,.slice none 0 0,.slice none 0 0] 38)
 have b0:=(((((Blk.new (w:=w) 54 [.string ⟨#[121]⟩,.int .i64 2,.bool false,.int .i64 0,.string ⟨#[97]⟩,.int .i64 2,.bool false,.int .i64 0]).next n1).next n2).next n3).next n4)
 have b1:=((((Blk.new (w:=(w.alloc (.cells #[.string ⟨#[121]⟩,.int .i64 2,.bool false,.int .i64 0,.string ⟨#[97]⟩,.int .i64 2,.bool false,.int .i64 0] 54))) 3 [.int .i64 1]).next n2).next n3).next n4)
 have b2:=(((Blk.new (w:=((w.alloc (.cells #[.string ⟨#[121]⟩,.int .i64 2,.bool false,.int .i64 0,.string ⟨#[97]⟩,.int .i64 2,.bool false,.int .i64 0] 54)).alloc (.cells #[.int .i64 1] 3))) 64 [.int .i64 1,.int .i64 0,.int .i64 0,.int .i64 0,.int .i64 0,.int .i64 0,.int .i64 2,.slice none 0 0,.int .i64 2,.int .i64 0,.int .i64 2,.int .i64 1,.int .i64 0,.bool false,.int .i64 0,.slice none 0 0,.slice none 0 0,.slice none 0 0,.slice none 0 0,.int .i64 0]).next n3).next n4)
 have b3:=((Blk.new (w:=(((w.alloc (.cells #[.string ⟨#[121]⟩,.int .i64 2,.bool false,.int .i64 0,.string ⟨#[97]⟩,.int .i64 2,.bool false,.int .i64 0] 54)).alloc (.cells #[.int .i64 1] 3)).alloc (.cells #[.int .i64 1,.int .i64 0,.int .i64 0,.int .i64 0,.int .i64 0,.int .i64 0,.int .i64 2,.slice none 0 0,.int .i64 2,.int .i64 0,.int .i64 2,.int .i64 1,.int .i64 0,.bool false,.int .i64 0,.slice none 0 0,.slice none 0 0,.slice none 0 0,.slice none 0 0,.int .i64 0] 64))) 49 [.int .i64 1,.int .i64 0,.int .i64 0,.int .i64 0,.slice (some ⟨w.heap.size+1+1,0,none⟩) 1 1]).next n4)
 have b4:=(Blk.new (w:=((((w.alloc (.cells #[.string ⟨#[121]⟩,.int .i64 2,.bool false,.int .i64 0,.string ⟨#[97]⟩,.int .i64 2,.bool false,.int .i64 0] 54)).alloc (.cells #[.int .i64 1] 3)).alloc (.cells #[.int .i64 1,.int .i64 0,.int .i64 0,.int .i64 0,.int .i64 0,.int .i64 0,.int .i64 2,.slice none 0 0,.int .i64 2,.int .i64 0,.int .i64 2,.int .i64 1,.int .i64 0,.bool false,.int .i64 0,.slice none 0 0,.slice none 0 0,.slice none 0 0,.slice none 0 0,.int .i64 0] 64)).alloc (.cells #[.int .i64 1,.int .i64 0,.int .i64 0,.int .i64 0,.slice (some ⟨w.heap.size+1+1,0,none⟩) 1 1] 49))) 38 [.slice (some ⟨w.heap.size,0,none⟩) 2 2,.slice none 0 0,.slice (some ⟨w.heap.size+1,0,none⟩) 1 1,.slice none 0 0,.slice (some ⟨w.heap.size+1+1+1,0,none⟩) 1 1,.slice none 0 0,.slice none 0 0])
 simp only [World.size_alloc] at b1 b2 b3 b4
 have hb:Below w.heap.size w (((((w.alloc (.cells #[.string ⟨#[121]⟩,.int .i64 2,.bool false,.int .i64 0,.string ⟨#[97]⟩,.int .i64 2,.bool false,.int .i64 0] 54)).alloc (.cells #[.int .i64 1] 3)).alloc (.cells #[.int .i64 1,.int .i64 0,.int .i64 0,.int .i64 0,.int .i64 0,.int .i64 0,.int .i64 2,.slice none 0 0,.int .i64 2,.int .i64 0,.int .i64 2,.int .i64 1,.int .i64 0,.bool false,.int .i64 0,.slice none 0 0,.slice none 0 0,.slice none 0 0,.slice none 0 0,.int .i64 0] 64)).alloc (.cells #[.int .i64 1,.int .i64 0,.int .i64 0,.int .i64 0,.slice (some ⟨w.heap.size+1+1,0,none⟩) 1 1] 49)).alloc (.cells #[.slice (some ⟨w.heap.size,0,none⟩) 2 2,.slice none 0 0,.slice (some ⟨w.heap.size+1,0,none⟩) 1 1,.slice none 0 0,.slice (some ⟨w.heap.size+1+1+1,0,none⟩) 1 1,.slice none 0 0,.slice none 0 0] 38)):=Below.next (Below.next (Below.next (Below.next n0 n1) n2) n3) n4
 have H:=Lib.hid (And.intro hb (And.intro b0 (And.intro b1 (And.intro b2 (And.intro b3 b4)))))
 clear hb b0 b1 b2 b3 b4 n0 n1 n2 n3 n4
 go_enter Try.func4,Try.ntmps4
 go_upto_region 2 with fail
 change Hid (Below _ _ (((((w.alloc (.cells #[.string ⟨#[121]⟩,.int .i64 2,.bool false,.int .i64 0,.string ⟨#[97]⟩,.int .i64 2,.bool false,.int .i64 0] 54)).alloc (.cells #[.int .i64 1] 3)).alloc (.cells #[.int .i64 1,.int .i64 0,.int .i64 0,.int .i64 0,.int .i64 0,.int .i64 0,.int .i64 2,.slice none 0 0,.int .i64 2,.int .i64 0,.int .i64 2,.int .i64 1,.int .i64 0,.bool false,.int .i64 0,.slice none 0 0,.slice none 0 0,.slice none 0 0,.slice none 0 0,.int .i64 0] 64)).alloc (.cells #[.int .i64 1,.int .i64 0,.int .i64 0,.int .i64 0,.slice (some ⟨w.heap.size+1+1,0,none⟩) 1 1] 49)).alloc (.cells #[.slice (some ⟨w.heap.size,0,none⟩) 2 2,.slice none 0 0,.slice (some ⟨w.heap.size+1,0,none⟩) 1 1,.slice none 0 0,.slice (some ⟨w.heap.size+1+1+1,0,none⟩) 1 1,.slice none 0 0,.slice none 0 0] 38))∧_) at H
 generalize (((((w.alloc (.cells #[.string ⟨#[121]⟩,.int .i64 2,.bool false,.int .i64 0,.string ⟨#[97]⟩,.int .i64 2,.bool false,.int .i64 0] 54)).alloc (.cells #[.int .i64 1] 3)).alloc (.cells #[.int .i64 1,.int .i64 0,.int .i64 0,.int .i64 0,.int .i64 0,.int .i64 0,.int .i64 2,.slice none 0 0,.int .i64 2,.int .i64 0,.int .i64 2,.int .i64 1,.int .i64 0,.bool false,.int .i64 0,.slice none 0 0,.slice none 0 0,.slice none 0 0,.slice none 0 0,.int .i64 0] 64)).alloc (.cells #[.int .i64 1,.int .i64 0,.int .i64 0,.int .i64 0,.slice (some ⟨w.heap.size+1+1,0,none⟩) 1 1] 49)).alloc (.cells #[.slice (some ⟨w.heap.size,0,none⟩) 2 2,.slice none 0 0,.slice (some ⟨w.heap.size+1,0,none⟩) 1 1,.slice none 0 0,.slice (some ⟨w.heap.size+1+1+1,0,none⟩) 1 1,.slice none 0 0,.slice none 0 0] 38))=wA at *
 have HA:Hid (Calls Try.prog 8 #[.agg #[.slice (some ⟨w.heap.size,0,none⟩) 2 2,.slice none 0 0,.slice (some ⟨w.heap.size+1,0,none⟩) 1 1,.slice none 0 0,.slice (some ⟨w.heap.size+1+1+1,0,none⟩) 1 1,.slice none 0 0,.slice none 0 0]] wA (AnaR awL awP [1] [] wA)):=Lib.hid (aw_ana H.out.2.1 H.out.2.2.1 H.out.2.2.2.1 H.out.2.2.2.2.1)
 have d0:=H.out.2.2.2.2.2.cell (i:=0) rfl
 have d1:=H.out.2.2.2.2.2.cell (i:=1) rfl
 have d2:=H.out.2.2.2.2.2.cell (i:=2) rfl
 have d3:=H.out.2.2.2.2.2.cell (i:=3) rfl
 have d4:=H.out.2.2.2.2.2.cell (i:=4) rfl
 have d5:=H.out.2.2.2.2.2.cell (i:=5) rfl
 have d6:=H.out.2.2.2.2.2.cell (i:=6) rfl
 go_wp2_with fail
 refine HA.out.mono ?_;rintro en w6 ⟨e,q1,q2,q3,rv,ov,rfl,hbel,hiff,_,hok⟩
 have he:=hiff.2 aw_all
 subst he
 obtain ⟨out,dn,hr,ho,hI,hF⟩:=hok rfl
 have ho1:=aw_order hI hF
 have hr2:ROA (λ b=>wA.heap.size≤b) w6 rv 1 2 (ints [2,1]):=by have:=hr;rw [aw_roles] at this;exact this
 obtain ⟨rp,rc,rfl,_⟩:=hr2.form
 obtain ⟨op,oc,rfl,_⟩:=ho.form
 rw [ho1]
 obtain ⟨b,o,rfl⟩:=hr2.sl (j:=0) (u := .int .i64 2) rfl
 have c0:=hr2.ro.cell (j:=0) (u := .int .i64 2) rfl
 have c1:=hr2.ro.cell (j:=1) (u := .int .i64 1) rfl
 rw [Nat.add_zero] at c0
 have hlt:=World.block_lt_of_cell? _ _ c0
 have HB:=Lib.hid (And.intro (Below.next H.out.1 hbel) hlt)
 clear hbel hiff hok hr ho hI hF ho1 hr2 hlt d0 d1 d2 d3 d4 d5 d6
 go_upto_region 3 with fail
 have m0:=Below.new w6 (.cells #[.slice (some ⟨b,o,none⟩) 2 rc,.slice op 1 oc] 41)
 have m1:=Below.new (w6.alloc (.cells #[.slice (some ⟨b,o,none⟩) 2 rc,.slice op 1 oc] 41)) (.cells #[.int .i64 q1,.int .i64 q2,.int .i64 q3] 43)
 have hB2:=Below.next (Below.next HB.out.1 m0) m1
 have bI:=((Blk.new (w:=w6) 41 [.slice (some ⟨b,o,none⟩) 2 rc,.slice op 1 oc]).next m1)
 have e0:=bI.cell (i:=0) rfl
 have e1:=bI.cell (i:=1) rfl
 have f0:=(m1.cell (Nat.lt_of_lt_of_le HB.out.2 (by rw [World.size_alloc];exact Nat.le_succ _))).trans ((m0.cell HB.out.2).trans c0)
 have f1:=(m1.cell (Nat.lt_of_lt_of_le HB.out.2 (by rw [World.size_alloc];exact Nat.le_succ _))).trans ((m0.cell HB.out.2).trans c1)
 clear bI m0 m1 c0 c1 HB H HA
 generalize ((w6.alloc (.cells #[.slice (some ⟨b,o,none⟩) 2 rc,.slice op 1 oc] 41)).alloc (.cells #[.int .i64 q1,.int .i64 q2,.int .i64 q3] 43))=wB at *
 go_wp2_with fail
 go_ret
 exact ⟨rfl,hB2⟩
structure AtI (out:List Nat) (m np:Nat) (A:List Int):Prop where
 len:A.length=np
 hit:∀ p j,p<m→out[p]? = some j→A[j]? = some ((p+1:Nat):Int)
 no:∀ j,j<np→(∀ p,p<m→out[p]? ≠ some j)→A[j]? = some 0
theorem AtI.start (out:List Nat) (np:Nat):AtI out 0 np (List.replicate np 0) :=
 ⟨List.length_replicate,λ p j hp=>absurd hp (Nat.not_lt_zero _),λ j hj _=>by rw [List.getElem?_replicate,if_pos hj]⟩
theorem nodup_two {out:List Nat} (hn:out.Nodup) {p q j:Nat} (hp:out[p]? = some j) (hq:out[q]? = some j):p=q:=by
 obtain ⟨h1,e1⟩:=List.getElem?_eq_some_iff.1 hp
 exact (List.getElem?_inj h1 hn).1 (hp.trans hq.symm)
theorem AtI.zero {out:List Nat} {m np:Nat} {A:List Int} (h:AtI out m np A) (hn:out.Nodup) {j:Nat} (hj:out[m]? = some j) (hl:j<np):A[j]? = some 0 :=
 h.no j hl λ p hp he=>Nat.ne_of_lt hp (nodup_two hn he hj)
theorem AtI.step {out : List Nat} {m np : Nat} {A : List Int} (h : AtI out m np A) (hn : out.Nodup) {j : Nat} (hj : out[m]? = some j) (hl : j < np) : AtI out (m + 1) np (A.set j ((m + 1 : Nat) : Int)) := by
  refine ⟨by rw [List.length_set]; exact h.len, fun p k hp hk => ?_, fun k hk hno => ?_⟩
  · rw [List.getElem?_set]
    by_cases e : j = k
    · subst e
      have := nodup_two hn hj hk
      subst this
      rw [if_pos rfl, if_pos (by rw [h.len]; exact hl)]
    · rw [if_neg e]
      exact h.hit p k (by rcases Nat.lt_or_ge p m with h1 | h1
                          · exact h1
                          · have : p = m := by omega
                            subst this
                            rw [hj] at hk
                            exact absurd (Option.some.inj hk) e) hk
  · rw [List.getElem?_set, if_neg (fun e => by subst e; exact hno m (Nat.lt_succ_self _) hj)]
    exact h.no k hk fun p hp => hno p (Nat.lt_succ_of_lt hp)
section
variable {l:List Sg} {ps:List Pr} {dn:List Bool} {out:List Nat} {A:List Int}
theorem AtI.pos (h:AtI out out.length ps.length A) {i:Nat} (hi:i<ps.length):(i ∉ out∧A[i]? = some 0)∨∃ p,out[p]? = some i∧A[i]? = some ((p+1:Nat):Int):=by
 by_cases hm:i∈out
 ·obtain ⟨p,hp,he⟩:=List.getElem_of_mem hm
  have:out[p]? = some i:=by rw [List.getElem?_eq_getElem hp,he]
  exact Or.inr ⟨p,this,h.hit p i hp this⟩
 ·exact Or.inl ⟨hm,h.no i hi λ p _ he=>hm (List.mem_of_getElem? he)⟩
theorem AtI.kind (h:AtI out out.length ps.length A) (ho:OrdI l ps dn out) (hf:∀ i,i<ps.length→frK l ps dn i ps.length=false) (hc:loopC l ps) {i:Nat} (hi:i<ps.length) :
  ∃ v:Int,A[i]? = some v∧0≤v∧v≤out.length∧decide (v=0)=decide ((ps.getD i default).kind=3):=by
 have hm:=ordI_mem ho hf hc i
 rcases h.pos hi with ⟨h1,h2⟩ | ⟨p,h1,h2⟩
 ·refine ⟨0,h2,Int.le_refl _,by omega,?_⟩
  have:(ps.getD i default).kind=3:=Decidable.byContradiction λ hk=>h1 (hm.2 ⟨hi,hk⟩)
  rw [decide_eq_true rfl,decide_eq_true this]
 ·have hp:=(List.getElem?_eq_some_iff.1 h1).1
  refine ⟨_,h2,by omega,by omega,?_⟩
  have:=(hm.1 (List.mem_of_getElem? h1)).2
  rw [decide_eq_false (by omega),decide_eq_false this]
theorem AtI.leads (h:AtI out out.length ps.length A) (ho:OrdI l ps dn out) {i k:Nat} (hi:i<ps.length) (hk:k<ps.length) {vi vk:Int} (h1:A[i]? = some vi) (h2:A[k]? = some vk) (hp1:0<vi) (hp2:0<vk) (hle:vk≤vi):leadsP l ps i k=false:=by
 cases hl:leadsP l ps i k with
 | false=>rfl
 | true =>
  exfalso
  rcases h.pos hi with ⟨_,h3⟩ | ⟨p,h3,h4⟩
  ·rw [h1] at h3;have:=Option.some.inj h3;omega
  ·rcases h.pos hk with ⟨_,h5⟩ | ⟨q,h5,h6⟩
   ·rw [h2] at h5;have:=Option.some.inj h5;omega
   ·have hm:=ho.bf q k h5 i hi hl
    obtain ⟨r,hr,he⟩:=List.getElem_of_mem hm
    rw [List.length_take] at hr
    rw [List.getElem_take] at he
    have hr1:out[r]? = some i:=by rw [List.getElem?_eq_getElem (by omega),he]
    have:=nodup_two ho.nd hr1 h3
    rw [h1] at h4;rw [h2] at h6
    have e1:=Option.some.inj h4
    have e2:=Option.some.inj h6
    omega
end
theorem tmod_z (a:Int) (n:Nat):Int.tmod a n=a % n∨Int.tmod a n=a % n-n:=by
 rw [Int.tmod_eq_emod]
 split
 ·exact Or.inl (by omega)
 ·exact Or.inr (by simp)
theorem turn_mod {n:Nat} (hn:0<n) (i:Nat) (t:Int):Int.tmod (Int.tmod ((i:Int)+Int.tmod t n) n+n) n=((((i+(t % n).toNat) % n:Nat)):Int):=by
 have hn0:(n:Int)≠0:=by omega
 have ht:=Int.emod_nonneg t hn0
 have e1:((i:Int)+Int.tmod t n) % n=((i:Int)+t % n) % n:=by
  rcases tmod_z t n with h | h <;> rw [h]
  rw [show (i:Int)+(t % n-n)=(i+t % n)-n by omega,Int.sub_emod_right]
 have e2:(Int.tmod ((i:Int)+Int.tmod t n) n+n) % n=((i:Int)+t % n) % n:=by
  rw [←e1]
  rcases tmod_z ((i:Int)+Int.tmod t n) n with h | h <;> rw [h]
  ·rw [Int.add_emod_right,Int.emod_emod]
  ·rw [Int.sub_add_cancel,Int.emod_emod]
 have e3:0≤Int.tmod ((i:Int)+Int.tmod t n) n+n:=by
  have:=Int.emod_nonneg ((i:Int)+Int.tmod t n) hn0
  rcases tmod_z ((i:Int)+Int.tmod t n) n with h | h <;> rw [h] <;> omega
 rw [Int.tmod_eq_emod_of_nonneg e3,e2,Int.natCast_emod,Int.natCast_add,Int.toNat_of_nonneg ht]
theorem turn_lt {n:Nat} (hn:0<n) (t:Int):(t % n).toNat≤n:=by
 have:=Int.emod_lt_of_pos t (show (0:Int)<n by omega)
 omega
theorem tmod_small (a:Int) {n:Nat} (hn:0<n) : -(n:Int)≤Int.tmod a n∧Int.tmod a n<n:=by
 have h1:=Int.emod_nonneg a (show (n:Int)≠0 by omega)
 have h2:=Int.emod_lt_of_pos a (show (0:Int)<n by omega)
 rcases tmod_z a n with h | h <;> rw [h] <;> omega
section
variable {w2 w3:World} {l:List Sg} {ps:List Pr} {sts:List (Nat × List Bool)} {sp:Option Addr} {sc:Nat} {pl:List Int} {pL:Option Addr} {cL:Nat} {pI:Option Addr} {cI:Nat} {pP:Option Addr} {cP:Nat} {pc:List Value} {pT:Option Addr} {cT:Nat} {stc:List Value}
theorem own_dd (D:DesR w2 l ps sts sp sc pl pL cL pI cI pP cP pc pT cT stc) (hb:Below w2.heap.size w2 w3) {sp':Option Addr} {sc':Nat} {pp':Option Addr} {cp':Nat} {tp':Option Addr} {tc':Nat} {fpc ftc:List Value} (pO:Option Addr) (nO cO:Nat) (pA:Option Addr) (nA cA:Nat)
  (h1:ROA (From w2.heap.size) w3 (.slice sp' l.length sc') 4 l.length (sigCells l)) (h2:ROA (From w2.heap.size) w3 (.slice pp' ps.length cp') 5 ps.length fpc) (h3:PG 3 9 EF (From w2.heap.size) w3 ps fpc) (h4:ROA (From w2.heap.size) w3 (.slice tp' sts.length tc') 3 sts.length ftc) (h5:StF sts ftc) :
  DD w3.heap.size w3 ⟨sp',sc',pL,l.length,cL,pI,cI,pO,nO,cO,pp',cp',pA,nA,cA,tp',tc',none,0,none,0⟩ l ps [0] sts:=by
 have hA:∀ b,From w2.heap.size b→b<w3.heap.size→b<w3.heap.size∧w3.heap[b]? = w3.heap[b]? := λ b _ h=>⟨h,rfl⟩
 have hO:∀ b,b<w2.heap.size→b<w2.heap.size→b<w3.heap.size∧w3.heap[b]? = w2.heap[b]? := λ b h _=>⟨Nat.lt_of_lt_of_le h hb.size,hb.block b h⟩
 exact ⟨⟨h1.turn hA,D.sgs.pos,Nat.le_trans D.sgs.le (by decide),D.des.sg.sz⟩,D.des.inn.turn hO,by decide,⟨_,h2.turn hA,h3.turn EF.stay hA⟩,⟨_,D.pls.turn hO⟩,⟨_,h4.turn hA,h5⟩,D.des.wf,D.des.pl,Nat.le_trans D.slen (Nat.le_trans D.sgs.le (by decide))⟩
theorem DesR.szq (D:DesR w2 l ps sts sp sc pl pL cL pI cI pP cP pc pT cT stc):∀ y∈l,y.size≤y.w∧y.w≤1000:=λ y hy=>by
 have:=D.sgs.w y hy
 unfold Sg.size
 constructor
 ·split <;> omega
 ·omega
theorem DesR.inq (D:DesR w2 l ps sts sp sc pl pL cL pI cI pP cP pc pT cT stc):∀ v∈([0]:List Int),0≤v∧v<(l.length:Int):=λ v hv=>by
 have:=D.sgs.pos
 rw [List.mem_singleton.1 hv]
 omega
theorem DesR.stq (D:DesR w2 l ps sts sp sc pl pL cL pI cI pP cP pc pT cT stc):∀ s∈sts,s.1<l.length∧s.2.length≤1000:=λ s hs=>by
 have:=D.stP.ok s hs
 exact ⟨this.1,by omega⟩
end
end Go.Proofs.Ytlklleaocbnbcaa
