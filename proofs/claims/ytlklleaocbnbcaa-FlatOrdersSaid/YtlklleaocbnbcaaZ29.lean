import Derived.Test.YtlklleaocbnbcaaZ28
namespace Go.Proofs.Ytlklleaocbnbcaa
set_option linter.unusedVariables false
open Go.RowKit Go.Sort
inductive Wy (l:List Sg) (ps:List Pr):Nat→Nat→Prop where
 | one {i k:Nat} (hk:k<ps.length) (h:leadsP l ps i k=true):Wy l ps i k
 | more {i j k:Nat} (hj:j<ps.length) (h:leadsP l ps i j=true) (hw:Wy l ps j k):Wy l ps i k
def falses:List Bool→Nat
 | []=>0
 | b::r=>(if b then 0 else 1)+falses r
theorem falses_set:∀ (l:List Bool) (k:Nat),l[k]? = some false→falses (l.set k true)+1=falses l
 | [],k,h=>by simp at h
 | b::r,0,h=>by
  obtain rfl:b=false:=by simpa using h
  simp [falses];omega
 | b::r,k+1,h=>by
  have:=falses_set r k (by simpa using h)
  simp only [List.set_cons_succ,falses];omega
theorem getD_at {l:List Bool} {k n:Nat} (hl:l.length=n) (hk:k<n) {v:Bool} (h:l.getD k false=v):l[k]? = some v:=by
 rw [List.getD,List.getElem?_eq_getElem (by omega)] at h
 rw [List.getElem?_eq_getElem (by omega)]
 exact congrArg some h
theorem getD_setB (l:List Bool) (k j:Nat) (hk:k<l.length):(l.set k true).getD j false=(decide (k=j) || l.getD j false):=by
 rw [List.getD,List.getElem?_set]
 by_cases e:k=j
 ·subst e;simp [hk]
 ·rw [if_neg e];simp [e,List.getD]
structure Sch (l:List Sg) (ps:List Pr) (tg:Nat) (S S':List Bool) (E:Nat→Prop):Prop where
 len:S'.length=S.length
 le:∀ j,S.getD j false=true→S'.getD j false=true
 nt:S'.getD tg false=false
 cl:∀ v,(E v∨(S'.getD v false=true∧S.getD v false=false))→∀ n,n<ps.length→leadsP l ps v n=true→S'.getD n false=true
theorem Sch.way {l:List Sg} {ps:List Pr} {tg:Nat} {S S':List Bool} {E:Nat→Prop} (h:Sch l ps tg S S' E) (h0:∀ j,S.getD j false=false) {i:Nat} (hi:E i):¬Wy l ps i tg:=by
 have key:∀ i k,Wy l ps i k→(E i∨S'.getD i false=true)→S'.getD k false=true:=by
  intro i k hw
  induction hw with
  | one hk hl=>exact λ he=>h.cl _ (he.imp id λ e=>⟨e,h0 _⟩) _ hk hl
  | more hj hl _ ih=>exact λ he=>ih (.inr (h.cl _ (he.imp id λ e=>⟨e,h0 _⟩) _ hj hl))
 intro hw
 have:=key _ _ hw (.inl hi)
 rw [h.nt] at this
 cases this
def ReachR (l:List Sg) (ps:List Pr) (i tg sb:Nat) (S:List Bool) (W:World) (en:Ending) (w':World):Prop :=
 ∃ (r:Bool) (S':List Bool),en = .returned (.bool r)∧Blk w' sb 4 (bools S')∧Upd (One sb) (One sb) W w'∧(r=true→Wy l ps i tg)∧(r=false→Sch l ps tg S S' (λ v=>v=i))
set_option maxRecDepth 100000 in
set_option maxHeartbeats 8000000 in
theorem reach_any {base ab:Nat} {w:World} {x:AX} {l:List Sg} {ps:List Pr} {il:List Int} {sts:List (Nat × List Bool)} {ro:Value} {p1 p2 p3 e:Int} (hA:AN base ab x ro l ps il sts p1 p2 p3 e w) :
  ∀ (m:Nat) (i tg sb:Nat) (S:List Bool) (W:World),falses S≤m→S.length=ps.length→i<ps.length→tg<ps.length→S.getD tg false=false→Below w.heap.size w W→Blk W sb 4 (bools S)→w.heap.size≤sb →
   Calls Try.prog 53 #[.pointer (some ⟨ab,0,none⟩),.int .i64 i,.int .i64 tg,.slice (some ⟨sb,0,none⟩) ps.length ps.length] W (ReachR l ps i tg sb S W):=by
 intro m
 induction m with
 | zero =>
  intro i tg sb S W hm hl hi hto hst hbW hS hge
  exfalso
  have:=falses_set S tg (getD_at hl hto hst)
  omega
 | succ m ih =>
  intro i tg sb S W hm hl hi hto hst hbW hS hge
  obtain ⟨np,hnp⟩:∃ n,ps.length=n:=⟨_,rfl⟩
  have HIh:=Lib.hid ih
  have H:=Lib.hid (And.intro hA (And.intro hm (And.intro hl (And.intro hi (And.intro hto (And.intro hst (And.intro hbW (And.intro hge (And.intro hnp (show np≤1000 by rw [←hnp];exact hA.dd.np))))))))))
  have HS:=Lib.hid hS
  rw [hnp]
  have hAn:=(hA.below hbW).an
  rw [hnp] at hAn
  have a4:=hAn.cell (i:=4) rfl
  clear ih hA hm hl hi hto hst hbW hS hge hnp hAn
  go_enter Try.func53,Try.ntmps53
  go_wp2_with fail
  go_loopw [16] (λ kv wr=>∃ (k:Nat) (T:List Bool),kv = .int .i64 k∧k≤np∧Blk wr sb 4 (bools T)∧Upd (One sb) (One sb) W wr∧falses T≤m+1∧Sch l ps tg S T (λ _=>False)∧(∀ n,n<k→leadsP l ps i n=true→T.getD n false=true)) (λ kv _=>np-(intOf kv).toNat)
  case atStart=>exact ⟨0,S,rfl,Nat.zero_le _,HS.out,Upd.refl _ _,H.out.2.1,⟨rfl,λ _ h=>h,H.out.2.2.2.2.2.1,λ v hv=>by
   rcases hv with hv | ⟨h1,h2⟩
   ·exact hv.elim
   ·rw [h1] at h2;cases h2⟩,λ n hn=>absurd hn (Nat.not_lt_zero _)⟩
  case round =>
   obtain ⟨k,T,rfl,hkn,hT,hu,hf,hsch,hld⟩:=hrel
   clear a4
   have hTl:T.length=np:=by rw [hsch.len,H.out.2.2.1,H.out.2.2.2.2.2.2.2.2.1]
   have hbr:Below w.heap.size w wr:=H.out.2.2.2.2.2.2.1.trans (hu.lowF (λ b hb=>by have e:b=sb:=hb;have:=H.out.2.2.2.2.2.2.2.1;omega) H.out.2.2.2.2.2.2.1.size)
   by_cases hlt:k<np
   ·have hkk:(k:Int)<(np:Int):=by omega
    have hk0:(0:Int)≤(k:Int):=by omega
    have hkw:IntKind.i64.wrap ((k:Int)+1)=((k+1:Nat):Int):=by rw [i64_of (by have:=H.out.2.2.2.2.2.2.2.2.2;omega)];rfl
    have c0:=hT.cell (bools_at T k (by omega))
    obtain ⟨sn,hsn⟩:∃ v,T.getD k false=v:=⟨_,rfl⟩
    rw [hsn] at c0
    have hle:=pleads_any (H.out.1.below hbr) i k H.out.2.2.2.1 (by rw [H.out.2.2.2.2.2.2.2.2.1];exact hlt)
    obtain ⟨ld,hldk⟩:∃ v,leadsP l ps i k=v:=⟨_,rfl⟩
    rw [hldk] at hle
    have HL:=Lib.hid (And.intro hT (And.intro hu (And.intro hf (And.intro hsch (And.intro hld (And.intro hTl (And.intro hlt (And.intro hsn (And.intro hldk (And.intro hle hbr))))))))))
    clear hT hu hf hsch hld hTl hlt hkn hsn hldk hle hbr
    cases sn with
    | true =>
     go_wp2_with fail
     go_roundw
     case measure=>simp [intOf];have:=HL.out.2.2.2.2.2.2.1;omega
     case rel =>
      refine ⟨k+1,T,by go_num,HL.out.2.2.2.2.2.2.1,HL.out.1,HL.out.2.1,HL.out.2.2.1,HL.out.2.2.2.1,λ n hn hl => ?_⟩
      by_cases en:n=k
      ·subst en;exact HL.out.2.2.2.2.2.2.2.1
      ·exact HL.out.2.2.2.2.1 n (by omega) hl
    | false =>
     go_wp2_with fail
     refine HL.out.2.2.2.2.2.2.2.2.2.1.mono ?_;rintro en w5 ⟨rfl,hb5⟩
     have hT5:=HL.out.1.next hb5
     have hu5:Upd (One sb) (One sb) W w5:=HL.out.2.1.trans (Upd.below hb5)
     have H5:=Lib.hid (And.intro hT5 (And.intro hu5 (Below.next HL.out.2.2.2.2.2.2.2.2.2.2 hb5)))
     clear hT5 hu5 hb5 c0
     cases ld with
     | false =>
      go_wp2_with fail
      go_roundw
      case measure=>simp [intOf];have:=HL.out.2.2.2.2.2.2.1;omega
      case rel =>
       refine ⟨k+1,T,by go_num,HL.out.2.2.2.2.2.2.1,H5.out.1,H5.out.2.1,HL.out.2.2.1,HL.out.2.2.2.1,λ n hn hl => ?_⟩
       by_cases en:n=k
       ·subst en;rw [HL.out.2.2.2.2.2.2.2.2.1] at hl;cases hl
       ·exact HL.out.2.2.2.2.1 n (by omega) hl
     | true =>
      by_cases hkt:k=tg
      ·have hkti:((k:Int) == (tg:Int))=true:=by subst hkt;simp
       have HKt:=Lib.hid hkt
       clear hkt
       go_wp2_with fail
       go_ret
       exact ⟨true,T,rfl,H5.out.1,H5.out.2.1,λ _=>by rw [←HKt.out];exact .one (by rw [H.out.2.2.2.2.2.2.2.2.1];exact HL.out.2.2.2.2.2.2.1) HL.out.2.2.2.2.2.2.2.2.1,λ h=>by cases h⟩
      ·have hkti:((k:Int) == (tg:Int))=false:=by simp;omega
       have c0:=H5.out.1.cell (bools_at T k (by rw [HL.out.2.2.2.2.2.1];exact HL.out.2.2.2.2.2.2.1))
       have f0:=H5.out.1.frz k
       have hset:=H5.out.1.set k (.bool true)
       rw [bools_set] at hset
       have hus:Upd (One sb) (One sb) w5 (w5.setCell ⟨sb,k,none⟩ (.bool true)):=⟨rfl,rfl,rfl,by simp,λ j _ hn=>Below.heap_setCell _ _ _ _ (λ e=>hn e),λ j hj => .inl hj⟩
       have hbs:Below w.heap.size w (w5.setCell ⟨sb,k,none⟩ (.bool true)):=H5.out.2.2.setCell H.out.2.2.2.2.2.2.2.1 _
       have hfs:=falses_set T k (getD_at HL.out.2.2.2.2.2.1 HL.out.2.2.2.2.2.2.1 HL.out.2.2.2.2.2.2.2.1)
       have htk:(T.set k true).getD tg false=false:=by rw [getD_setB _ _ _ (by rw [HL.out.2.2.2.2.2.1];exact HL.out.2.2.2.2.2.2.1),HL.out.2.2.2.1.nt];simp [hkt]
       have hcall:=HIh.out k tg sb (T.set k true) (w5.setCell ⟨sb,k,none⟩ (.bool true)) (by have:=HL.out.2.2.1;omega) (by rw [List.length_set,HL.out.2.2.2.2.2.1];exact H.out.2.2.2.2.2.2.2.2.1.symm) (by rw [H.out.2.2.2.2.2.2.2.2.1];exact HL.out.2.2.2.2.2.2.1) H.out.2.2.2.2.1 htk hbs hset H.out.2.2.2.2.2.2.2.1
       rw [H.out.2.2.2.2.2.2.2.2.1] at hcall
       have HC:=Lib.hid (And.intro hcall (And.intro hus (And.intro hfs hkt)))
       clear hset hus hbs hfs htk hcall hkt
       go_wp2_with fail
       refine HC.out.1.mono ?_;rintro en w7 ⟨r,S',rfl,hb7,hu7,ht7,hf7⟩
       have hu7':Upd (One sb) (One sb) W w7:=(H5.out.2.1.trans HC.out.2.1).trans hu7
       have H7:=Lib.hid (And.intro hb7 (And.intro hu7' (And.intro ht7 hf7)))
       clear hb7 hu7 hu7' ht7 hf7 c0 f0
       cases r with
       | true =>
        go_wp2_with fail
        go_ret
        exact ⟨true,S',rfl,H7.out.1,H7.out.2.1,λ _ => .more (by rw [H.out.2.2.2.2.2.2.2.2.1];exact HL.out.2.2.2.2.2.2.1) HL.out.2.2.2.2.2.2.2.2.1 (H7.out.2.2.1 (by first | rfl | trivial)),λ h=>by cases h⟩
       | false =>
        have hs7:=H7.out.2.2.2 rfl
        have hkT:k<T.length:=by rw [HL.out.2.2.2.2.2.1];exact HL.out.2.2.2.2.2.2.1
        have hTS':∀ j,T.getD j false=true→S'.getD j false=true:=λ j hj=>hs7.le j (by rw [getD_setB _ _ _ hkT,hj];simp)
        have hkS':S'.getD k false=true:=hs7.le k (by rw [getD_setB _ _ _ hkT];simp)
        have hsc:Sch l ps tg S S' (λ _=>False):=by
         refine ⟨by rw [hs7.len,List.length_set,HL.out.2.2.2.1.len],λ j hj=>hTS' j (HL.out.2.2.2.1.le j hj),hs7.nt,λ v hv n hn hl => ?_⟩
         rcases hv with hv | ⟨h1,h2⟩
         ·exact hv.elim
         ·by_cases hvT:T.getD v false=true
          ·exact hTS' n (HL.out.2.2.2.1.cl v (.inr ⟨hvT,h2⟩) n hn hl)
          ·by_cases hvk:v=k
           ·exact hs7.cl v (.inl hvk) n hn hl
           ·refine hs7.cl v (.inr ⟨h1,?_⟩) n hn hl
            rw [getD_setB _ _ _ hkT]
            have:T.getD v false=false:=by simpa using hvT
            rw [this];simp;exact λ e=>hvk e.symm
        have hld7:∀ n,n<k+1→leadsP l ps i n=true→S'.getD n false=true:=λ n hn hl=>by
         by_cases en:n=k
         ·subst en;exact hkS'
         ·exact hTS' n (HL.out.2.2.2.2.1 n (by omega) hl)
        have hfz:falses S'≤m+1:=by
         have hmono:∀ (a b:List Bool),a.length=b.length→(∀ j,a.getD j false=true→b.getD j false=true)→falses b≤falses a:=by
          intro a
          induction a with
          | nil=>intro b hl _;have:b = []:=List.eq_nil_of_length_eq_zero (by simpa using hl.symm);subst this;exact Nat.le_refl _
          | cons y r ihr =>
           intro b hl hj
           cases b with
           | nil=>simp at hl
           | cons z s =>
            have:=ihr s (by simpa using hl) (λ j h=>by have:=hj (j+1);simp only [List.getD_cons_succ] at this;exact this h)
            have h0:=hj 0
            simp only [List.getD_cons_zero] at h0
            simp only [falses]
            cases y <;> cases z <;> simp_all <;> omega
         have:=hmono T S' (by rw [hs7.len,List.length_set]) hTS'
         have:=HL.out.2.2.1
         omega
        have H9:=Lib.hid (And.intro hsc (And.intro hld7 hfz))
        clear hs7 hkT hTS' hkS' hsc hld7 hfz
        go_wp2_with fail
        go_roundw
        case measure=>simp [intOf];have:=HL.out.2.2.2.2.2.2.1;omega
        case rel=>exact ⟨k+1,S',by go_num,HL.out.2.2.2.2.2.2.1,H7.out.1,H7.out.2.1,H9.out.2.2,H9.out.1,H9.out.2.1⟩
   ·obtain rfl:np=k:=by omega
    have hkk:¬(np:Int)<(np:Int):=by omega
    have HF:=Lib.hid (And.intro hT (And.intro hu (And.intro hsch hld)))
    clear hT hu hf hsch hld hTl hlt hkn hbr
    go_wp2_with fail
    go_ret
    refine ⟨false,T,rfl,HF.out.1,HF.out.2.1,λ h=>(by cases h),λ _=>⟨HF.out.2.2.1.len,HF.out.2.2.1.le,HF.out.2.2.1.nt,λ v hv n hn hl => ?_⟩⟩
    rcases hv with hv | hv
    ·subst hv;exact HF.out.2.2.2 n (by rw [←H.out.2.2.2.2.2.2.2.2.1];exact hn) hl
    ·exact HF.out.2.2.1.cl v (.inr hv) n hn hl
end Go.Proofs.Ytlklleaocbnbcaa
