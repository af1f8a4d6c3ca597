import Derived.Test.YtlklleaocbnbcaaZ29
namespace Go.Proofs.Ytlklleaocbnbcaa
set_option linter.unusedVariables false
open Go.RowKit Go.Sort
open Classical in
noncomputable def wyB (l:List Sg) (ps:List Pr) (i:Nat):Bool:=decide (Wy l ps i i)
theorem wyB_iff {l:List Sg} {ps:List Pr} {i:Nat}:wyB l ps i=true↔Wy l ps i i:=by unfold wyB;simp
def loopS (l:List Sg) (ps:List Pr) (i:Nat):Prop:=(ps.getD i default).kind≠3→¬Wy l ps i i
def loopC (l:List Sg) (ps:List Pr):Prop:=Till (λ i=>loopS l ps i) ps.length
def natInts (out:List Nat):List Value:=ints (out.map λ (n:Nat)=>(n:Int))
theorem natInts_app (out:List Nat) (i:Nat):natInts (out ++ [i])=natInts out ++ [.int .i64 (i:Nat)]:=by simp [natInts,ints]
def frK (l:List Sg) (ps:List Pr) (dn:List Bool) (i:Nat):Nat→Bool
 | 0 => !dn.getD i false && !decide ((ps.getD i default).kind=3)
 | k+1=>frK l ps dn i k && (dn.getD k false || !leadsP l ps k i)
theorem frK_at {l:List Sg} {ps:List Pr} {dn:List Bool} {i:Nat}:∀ {n:Nat},frK l ps dn i n=true→dn.getD i false=false∧(ps.getD i default).kind≠3∧∀ k,k<n→leadsP l ps k i=true→dn.getD k false=true
 | 0,h=>by
  unfold frK at h
  rw [Bool.and_eq_true,Bool.not_eq_true',Bool.not_eq_true',decide_eq_false_iff_not] at h
  exact ⟨h.1,h.2,λ k hk=>absurd hk (Nat.not_lt_zero _)⟩
 | n+1,h=>by
  unfold frK at h
  rw [Bool.and_eq_true] at h
  obtain ⟨h1,h2,h3⟩:=frK_at h.1
  refine ⟨h1,h2,λ k hk hl => ?_⟩
  by_cases e:k=n
  ·subst e
   have:=h.2
   rw [hl] at this
   simpa using this
  ·exact h3 k (by omega) hl
structure OrdI (l:List Sg) (ps:List Pr) (dn:List Bool) (out:List Nat):Prop where
 len:dn.length=ps.length
 mem:∀ j,dn.getD j false=true↔j∈out
 nd:out.Nodup
 ok:∀ j∈out,j<ps.length∧(ps.getD j default).kind≠3
 bf:∀ p j,out[p]? = some j→∀ k,k<ps.length→leadsP l ps k j=true→k∈out.take p
theorem OrdI.start (l:List Sg) (ps:List Pr):OrdI l ps (List.replicate ps.length false) [] :=
 ⟨by simp,λ j=>by
  rw [List.getD,List.getElem?_replicate]
  split <;> simp,List.nodup_nil,λ j hj=>(by cases hj),λ p j hj=>by simp at hj⟩
theorem OrdI.step {l:List Sg} {ps:List Pr} {dn:List Bool} {out:List Nat} (h:OrdI l ps dn out) {i:Nat} (hi:i<ps.length) (hf:frK l ps dn i ps.length=true):OrdI l ps (dn.set i true) (out ++ [i]):=by
 obtain ⟨h1,h2,h3⟩:=frK_at hf
 have hni:i ∉ out:=λ hm=>by rw [(h.mem i).2 hm] at h1;cases h1
 refine ⟨by rw [List.length_set];exact h.len,λ j => ?_,?_,λ j hj => ?_,λ p j hp k hk hl => ?_⟩
 ·rw [getD_setB _ _ _ (by rw [h.len];exact hi),Bool.or_eq_true,h.mem,decide_eq_true_eq,List.mem_append,List.mem_singleton]
  constructor
  ·rintro (e | e)
   ·exact .inr e.symm
   ·exact .inl e
  ·rintro (e | e)
   ·exact .inr e
   ·exact .inl e.symm
 ·rw [List.nodup_append]
  exact ⟨h.nd,by simp,λ a ha b hb=>by rw [List.mem_singleton] at hb;subst hb;exact λ e=>hni (e ▸ ha)⟩
 ·rcases List.mem_append.1 hj with hj | hj
  ·exact h.ok j hj
  ·rw [List.mem_singleton] at hj;subst hj;exact ⟨hi,h2⟩
 ·by_cases hlt:p<out.length
  ·rw [List.getElem?_append_left hlt] at hp
   rw [List.take_append_of_le_length (Nat.le_of_lt hlt)]
   exact h.bf p j hp k hk hl
  ·rw [List.getElem?_append_right (by omega)] at hp
   have hp0:p-out.length=0:=by have:=(List.getElem?_eq_some_iff.1 hp).1;simp at this;omega
   rw [hp0] at hp
   have e:i=j:=by simpa using hp
   subst e
   have:p=out.length:=by omega
   subst this
   rw [List.take_append_of_le_length (Nat.le_refl _),List.take_length]
   exact (h.mem k).1 (h3 k hk hl)
def lenV:Value→Nat
 | .slice _ n _=>n
 | _=>0
theorem falses_repl:∀ n,falses (List.replicate n false)=n
 | 0=>rfl
 | n+1=>by rw [List.replicate_succ,falses,falses_repl n];simp;omega
theorem TIntsF:SlTy Try.prog 26 3 1 8 (.int .i64 0):=SlTy.of Try.underlying26 (by kernel_rfl) rfl (by decide)
theorem Ck.upd {ab:Nat} {h:AHd} {w0 W W':World} {e0:Int} {ls:Bx} {C:Prop} (hc:Ck ab h w0 e0 ls C W) {G G':Nat→Prop} (hu:Upd G G' W W') (hG:∀ k,G k→w0.heap.size≤k) (hx:∀ k,G k→∀ x∈ls,x.1≠k):Ck ab h w0 e0 ls C W':=by
 obtain ⟨p1,p2,p3,e,h1,h2⟩:=hc.an
 have hold:∀ k,k<w0.heap.size→W'.heap[k]? = W.heap[k]? := λ k hk=>hu.block k (Nat.lt_of_lt_of_le hk hc.up.size) (λ hg=>by have:=hG k hg;omega)
 refine ⟨⟨p1,p2,p3,e,?_,h2⟩,⟨hu.os.trans hc.up.os,hu.tape.trans hc.up.tape,hu.output.trans hc.up.output,Nat.le_trans hc.up.size hu.size,λ k hk hn=>(hold k hk).trans (hc.up.block k hk hn),hc.up.sub⟩,λ x hx2=>⟨?_,(hc.blk x hx2).2⟩,hc.lt⟩
 ·unfold Blk at h1 ⊢;rw [hold ab hc.lt];exact h1
 ·have hk:=(hc.blk x hx2).1
  unfold Blk at hk ⊢
  rw [hu.block _ (some_lt hk) (λ hg=>hx _ hg x hx2 rfl)];exact hk
structure OrS (ab:Nat) (h:AHd) (w0:World) (e0:Int) (ls:Bx) (C:Prop) (db:Nat) (dn:List Bool) (ov:Value) (out:List Nat) (W:World):Prop where
 ck:Ck ab h w0 e0 ls C W
 row:Blk W db 4 (bools dn)
 ge:w0.heap.size≤db
 own:W.ownsRow w0.heap.size 3 1 ov out.length (natInts out)
 ne:ov.ownBlock≠some db
 nl:∀ x∈ls,x.1≠db∧ov.ownBlock≠some x.1
section
variable {ab db:Nat} {h:AHd} {w0 W W':World} {e0:Int} {ls:Bx} {C:Prop} {dn:List Bool} {ov:Value} {out:List Nat}
theorem OrS.below (hc:OrS ab h w0 e0 ls C db dn ov out W) (hb:Below W.heap.size W W'):OrS ab h w0 e0 ls C db dn ov out W' :=
 ⟨hc.ck.below hb,hc.row.next hb,hc.ge,ownsRow_keep hc.own λ k hk=>hb.block k (own_lt' hc.own k hk).2,hc.ne,hc.nl⟩
theorem OrS.lay (hc:OrS ab h w0 e0 ls C db dn ov out W) (t:Nat) (c:List Value):OrS ab h w0 e0 ((W.heap.size,t,c)::ls) C db dn ov out (W.alloc (.cells c.toArray t)):=by
 have h':=hc.below (Below.new W (.cells c.toArray t))
 refine ⟨hc.ck.lay t c,h'.row,h'.ge,h'.own,h'.ne,λ x hx => ?_⟩
 rcases List.mem_cons.1 hx with rfl | hx
 ·exact ⟨λ e=>by have:=hc.row.lt;have e':W.heap.size=db:=e;omega,λ e=>by have:=(own_lt' hc.own _ e).2;exact absurd this (Nat.lt_irrefl _)⟩
 ·exact hc.nl x hx
theorem OrS.drop (hc:OrS ab h w0 e0 ls C db dn ov out W) (j:Nat):OrS ab h w0 e0 (ls.drop j) C db dn ov out W :=
 ⟨hc.ck.drop j,hc.row,hc.ge,hc.own,hc.ne,λ x hx=>hc.nl x (List.mem_of_mem_drop hx)⟩
theorem OrS.set (hc:OrS ab h w0 e0 ls C db dn ov out W) (i:Nat) (x:Bool):OrS ab h w0 e0 ls C db (dn.set i x) ov out (W.setCell ⟨db,i,none⟩ (.bool x)) :=
 ⟨hc.ck.put hc.ge λ y hy=>(hc.nl y hy).1,by rw [←bools_set];exact hc.row.set i _,hc.ge,ownsRow_keep hc.own λ k hk=>Below.heap_setCell _ _ _ _ (λ e=>hc.ne (by rw [hk,e])),hc.ne,hc.nl⟩
theorem OrS.app (hc:OrS ab h w0 e0 ls C db dn ov out W) {m:Nat} {v':Value} {i:Nat} (ha:AppR w0.heap.size 3 1 W ov m (natInts out ++ [.int .i64 (i:Nat)]) v' W'):OrS ab h w0 e0 ls C db dn v' (out ++ [i]) W':=by
 have hold:∀ k,k<W.heap.size→ov.ownBlock≠some k→W'.heap[k]? = W.heap[k]? := λ k hk hn=>ha.grown.block k hk (Ne.symm hn)
 have hne:∀ k,k<W.heap.size→ov.ownBlock≠some k→v'.ownBlock≠some k:=λ k hk hn e=>by
  rcases ha.at_ with e2 | e2
  ·exact hn (e2 ▸ e)
  ·have:=Option.some.inj (e2.symm.trans e);omega
 have hb0:Below w0.heap.size W W':=ha.below (Below.refl _ _) hc.ck.size λ k hk=>(own_lt' hc.own k hk).1
 have hu:Upd (λ k=>ov.ownBlock=some k) (λ k=>ov.ownBlock=some k) W W':=⟨hb0.os,hb0.tape,hb0.output,ha.grown.size,λ k hk hn=>hold k hk hn,λ k hk => .inl hk⟩
 refine ⟨hc.ck.upd hu (λ k hk=>(own_lt' hc.own k hk).1) (λ k hk x hx e=>(hc.nl x hx).2 (by rw [e];exact hk)),?_,hc.ge,?_,hne db hc.row.lt hc.ne,λ x hx=>⟨(hc.nl x hx).1,hne _ (hc.ck.blk x hx).1.lt (hc.nl x hx).2⟩⟩
 ·have hk:=hc.row
  unfold Blk at hk ⊢
  rw [hold _ (some_lt hk) hc.ne];exact hk
 ·have:=ha.own
  have hm:m=(out ++ [i]).length:=by have:=this.1;rw [←natInts_app] at this;simpa [natInts,ints] using this.symm
  rw [natInts_app,←hm];exact this
end
theorem Ck.toAN {base ab:Nat} {x:AX} {ro:Value} {l:List Sg} {ps:List Pr} {il:List Int} {sts:List (Nat × List Bool)} {p1 p2 p3 e e0:Int} {w W:World} {ls:Bx} {C:Prop} (hA:AN base ab x ro l ps il sts p1 p2 p3 e w) (hc:Ck ab (x.h l.length il.length ps.length sts.length ro) w e0 ls C W):∃ q1 q2 q3 e',AN base ab x ro l ps il sts q1 q2 q3 e' W:=by
 obtain ⟨q1,q2,q3,e',h1,_⟩:=hc.an
 exact ⟨q1,q2,q3,e',h1,hA.dd.low (hc.low hA.hb),hc.ud hA.ud,hA.hb⟩
def OrderR (l:List Sg) (ps:List Pr) (ab:Nat) (h:AHd) (w:World) (e0:Int) (en:Ending) (w':World):Prop :=
 ∃ (out:List Nat) (ov:Value) (dn:List Bool),en = .returned ov∧w'.ownsRow w.heap.size 3 1 ov out.length (natInts out)∧Ck ab h w e0 [] (loopC l ps) w'∧(e0=0→loopC l ps→OrdI l ps dn out∧∀ i,i<ps.length→frK l ps dn i ps.length=false)
set_option maxRecDepth 100000 in
set_option maxHeartbeats 8000000 in
theorem order_any {base ab:Nat} {w:World} {x:AX} {l:List Sg} {ps:List Pr} {il:List Int} {sts:List (Nat × List Bool)} {ro:Value} {p1 p2 p3 e:Int} (hA:AN base ab x ro l ps il sts p1 p2 p3 e w) :
  Calls Try.prog 30 #[.pointer (some ⟨ab,0,none⟩)] w (OrderR l ps ab (x.h l.length il.length ps.length sts.length ro) w e):=by
 obtain ⟨np,hnp⟩:∃ n,ps.length=n:=⟨_,rfl⟩
 have HA:=Lib.hid (And.intro hA (And.intro hnp (show np≤1000 by rw [←hnp];exact hA.dd.np)))
 obtain ⟨pp,hpp⟩:∃ v,x.pp=v:=⟨_,rfl⟩
 obtain ⟨cp,hcp⟩:∃ v,x.cp=v:=⟨_,rfl⟩
 obtain ⟨h,hh⟩:∃ h,x.h l.length il.length ps.length sts.length ro=h:=⟨_,rfl⟩
 have HH:Hid (h.pr = .slice pp np cp∧x.pp=pp∧x.h l.length il.length ps.length sts.length ro=h):=Lib.hid ⟨by rw [←hh,←hnp,←hpp,←hcp],hpp,hh⟩
 have hA0:=hA.an
 rw [hh] at hA0 ⊢
 obtain ⟨g,hg⟩:∃ g:Nat→Prop,(λ i=>loopS l ps i)=g:=⟨_,rfl⟩
 have HG:=Lib.hid hg
 have HC:Hid (Ck ab h w e [] (Till g 0) w):=Lib.hid ((Ck.start hA0).iff (Till.zero g).symm)
 clear hA hnp hpp hcp hh hA0 hg
 have a4:=HC.out.cell (i:=4) (v := .slice pp np cp) (λ _ _ _ _=>congrArg some HH.out.1)
 go_enter Try.func30,Try.ntmps30
 go_wp2_with fail
 go_loopw [18] (λ iv wr=>∃ i:Nat,iv = .int .i64 i∧i≤np∧Ck ab h w e [] (Till g i) wr) (λ iv _=>np-(intOf iv).toNat)
 case atStart=>exact ⟨0,rfl,Nat.zero_le _,HC.out⟩
 case round =>
  obtain ⟨i,rfl,hin,hCr⟩:=hrel
  clear a4
  by_cases hlt:i<np
  ·skip
   have hii:(i:Int)<(np:Int):=by omega
   have hi0:(0:Int)≤(i:Int):=by omega
   have hiw:IntKind.i64.wrap ((i:Int)+1)=((i+1:Nat):Int):=by rw [i64_of (by have:=HA.out.2.2;omega)];rfl
   obtain ⟨q,hq⟩:∃ q,ps[i]? = some q:=⟨_,List.getElem?_eq_getElem (by rw [HA.out.2.1];exact hlt)⟩
   have hDr:=HA.out.1.dd.low (hCr.low HA.out.1.hb)
   obtain ⟨b,o,pb,cb,bc,hpp,hrg,_,_⟩:=hDr.at hq
   have hpe:=HH.out.2.1
   rw [hpp] at hpe
   subst hpe
   clear hpp
   have hgd:ps.getD i default=q:=by rw [List.getD,hq];rfl
   obtain ⟨kd,y1,y2,y3,body⟩:=q
   dsimp only at hrg
   obtain ⟨bn,hbn⟩:∃ n,body.len=n:=⟨_,rfl⟩
   rw [hbn] at hrg
   have c0:=hrg 0 _ rfl
   have c1:=hrg 1 _ rfl
   have c2:=hrg 2 _ rfl
   have c3:=hrg 3 _ rfl
   have c4:=hrg 4 _ rfl
   rw [Nat.add_zero] at c0
   have hkd:(ps.getD i default).kind=kd:=by rw [hgd]
   have hCl:=hCr.lay 49 [.int .i64 kd,.int .i64 y1,.int .i64 y2,.int .i64 y3,.slice pb bn cb]
   change Ck _ _ _ _ _ _ (wr.alloc (.cells #[.int .i64 kd,.int .i64 y1,.int .i64 y2,.int .i64 y3,.slice pb bn cb] 49)) at hCl
   have HL:=Lib.hid (And.intro hCl (And.intro hkd hlt))
   clear hCr hDr hgd hq hrg hbn hlt hin hCl hkd
   go_upto_region 4 with fail
   obtain ⟨xp,hxp⟩:∃ b,wr.heap.size=b:=⟨_,rfl⟩
   rw [hxp] at HL ⊢
   generalize wr.alloc (.cells #[.int .i64 kd,.int .i64 y1,.int .i64 y2,.int .i64 y3,.slice pb bn cb] 49)=w5 at *
   clear hxp c0 c1 c2 c3 c4
   have HKS:Hid (∀ {W:World} {C:Prop},Ck ab h w e [(xp,49, [.int .i64 kd,.int .i64 y1,.int .i64 y2,.int .i64 y3,.slice pb bn cb])] C W→(λ W=>W.cell? ⟨xp,0,none⟩=some (.int .i64 kd)∧W.cell? ⟨xp,1,none⟩=some (.int .i64 y1)∧W.cell? ⟨xp,2,none⟩=some (.int .i64 y2)∧W.cell? ⟨xp,3,none⟩=some (.int .i64 y3)∧W.cell? ⟨xp,4,none⟩=some (.slice pb bn cb)∧W.cell? ⟨ab,4,none⟩=some (.slice (some ⟨b,o,none⟩) np cp)) W):=Lib.hid λ hc=>⟨(hc.at 0 rfl).cell (i:=0) rfl,(hc.at 0 rfl).cell (i:=1) rfl,(hc.at 0 rfl).cell (i:=2) rfl,(hc.at 0 rfl).cell (i:=3) rfl,(hc.at 0 rfl).cell (i:=4) rfl,hc.cell (i:=4) (v := .slice (some ⟨b,o,none⟩) np cp) (λ _ _ _ _=>congrArg some HH.out.1)⟩
   obtain ⟨cb3,hcb⟩:∃ c,decide (kd=3)=c:=⟨_,rfl⟩
   have HCl:=Lib.hid (λ w=>clocked_b (w:=w) kd y1 y2 y3 pb bn cb hcb)
   have hgi:g i↔(!cb3 && wyB l ps i)=false:=by
    rw [←HG.out]
    show loopS l ps i↔_
    unfold loopS
    rw [HL.out.2.1]
    have h1:kd=3↔cb3=true:=by rw [←hcb];simp
    rw [Ne,h1]
    cases cb3
    ·simp only [Bool.not_false,Bool.true_and,Bool.false_eq_true,not_false_eq_true,forall_const]
     rw [←wyB_iff,Bool.not_eq_true]
    ·simp
   have HGi:=Lib.hid hgi
   have HLd:=Lib.hid HL.out.1.drew
   clear hcb hgi
   cases cb3
   case true =>
    refine wp_region_held_drew (S:=(λ W=>W.cell? ⟨xp,0,none⟩=some (.int .i64 kd)∧W.cell? ⟨xp,1,none⟩=some (.int .i64 y1)∧W.cell? ⟨xp,2,none⟩=some (.int .i64 y2)∧W.cell? ⟨xp,3,none⟩=some (.int .i64 y3)∧W.cell? ⟨xp,4,none⟩=some (.slice pb bn cb)∧W.cell? ⟨ab,4,none⟩=some (.slice (some ⟨b,o,none⟩) np cp))) (by kernel_rfl) ?_ (λ hHeld => ?_)
    ·exact HKS.out HLd.out
    refine held_take (i:=0) (v := ?_) rfl (by kernel_rfl) (by kernel_rfl) (by kernel_rfl) (λ _ _ _ h=>h) (Or.inl ⟨by rfl,?_⟩) hHeld ?_
    rotate_left
    ·intro w hSw;(try dsimp only at hSw);go_simp;(try with_reducible rfl)
    (try simp only [Act.put,List.setIfInBounds_toArray,List.set_cons_zero,List.set_cons_succ])
    refine held_take (i:=1) (v := ?_) rfl (by kernel_rfl) (by kernel_rfl) (by kernel_rfl) (λ _ _ _ h=>h) (Or.inl ⟨by rfl,?_⟩) hHeld ?_
    rotate_left
    ·intro w hSw;(try dsimp only at hSw);go_simp;(try with_reducible rfl)
    (try simp only [Act.put,List.setIfInBounds_toArray,List.set_cons_zero,List.set_cons_succ])
    refine held_take (i:=17) (v := ?_) rfl (by kernel_rfl) (by kernel_rfl) (by kernel_rfl) (λ _ _ _ h=>h) (Or.inl ⟨by rfl,?_⟩) hHeld ?_
    rotate_left
    ·intro w hSw;(try dsimp only at hSw);go_simp;(try with_reducible rfl)
    (try simp only [Act.put,List.setIfInBounds_toArray,List.set_cons_zero,List.set_cons_succ])
    refine held_take (i:=18) (v := ?_) rfl (by kernel_rfl) (by kernel_rfl) (by kernel_rfl) (λ _ _ _ h=>h) (Or.inl ⟨by rfl,?_⟩) hHeld ?_
    rotate_left
    ·intro w hSw;(try dsimp only at hSw);go_simp;(try with_reducible rfl)
    (try simp only [Act.put,List.setIfInBounds_toArray,List.set_cons_zero,List.set_cons_succ])
    refine wpAnyH_ready (rs := [2]) (by kernel_rfl) (by simp) ?_
    refine held_cons rfl (λ K hK => ?_) AllReadyH.nil
    go_simp
    refine (HCl.out _).mono ?_;rintro en w6 ⟨rfl,hb6⟩
    have HC6:=Lib.hid (HLd.out.below hb6)
    clear hb6
    (try go_simp)
    refine hK.out _ _ ?_ (λ hHeld2 => ?_)
    ·(try dsimp only)
     exact HKS.out HC6.out
    clear hK K hHeld
    have hHeld:=hHeld2
    clear hHeld2
    (try simp only [Act.put,List.setIfInBounds_toArray,List.set_cons_zero,List.set_cons_succ])
    refine held_take (i:=3) (v := ?_) rfl (by kernel_rfl) (by kernel_rfl) (by kernel_rfl) (λ _ _ _ h=>h) (Or.inl ⟨by rfl,?_⟩) hHeld ?_
    rotate_left
    ·intro w hSw;(try dsimp only at hSw);go_simp;(try with_reducible rfl)
    (try simp only [Act.put,List.setIfInBounds_toArray,List.set_cons_zero,List.set_cons_succ])
    refine held_take (i:=4) (v := ?_) rfl (by kernel_rfl) (by kernel_rfl) (by kernel_rfl) (λ _ _ _ h=>h) (Or.inl ⟨by rfl,?_⟩) hHeld ?_
    rotate_left
    ·intro w hSw;(try dsimp only at hSw);go_simp;(try with_reducible rfl)
    (try simp only [Act.put,List.setIfInBounds_toArray,List.set_cons_zero,List.set_cons_succ])
    refine held_take (i:=5) rfl (by kernel_rfl) (by kernel_rfl) (by kernel_rfl) (λ _ _ _ h=>h) (Or.inr ⟨by rfl,rfl⟩) hHeld ?_
    (try simp only [Act.put,List.setIfInBounds_toArray,List.set_cons_zero,List.set_cons_succ])
    refine held_take (i:=6) rfl (by kernel_rfl) (by kernel_rfl) (by kernel_rfl) (λ _ _ _ h=>h) (Or.inr ⟨by rfl,rfl⟩) hHeld ?_
    (try simp only [Act.put,List.setIfInBounds_toArray,List.set_cons_zero,List.set_cons_succ])
    refine held_take (i:=7) rfl (by kernel_rfl) (by kernel_rfl) (by kernel_rfl) (λ _ _ _ h=>h) (Or.inr ⟨by rfl,rfl⟩) hHeld ?_
    (try simp only [Act.put,List.setIfInBounds_toArray,List.set_cons_zero,List.set_cons_succ])
    refine held_take (i:=8) rfl (by kernel_rfl) (by kernel_rfl) (by kernel_rfl) (λ _ _ _ h=>h) (Or.inr ⟨by rfl,rfl⟩) hHeld ?_
    (try simp only [Act.put,List.setIfInBounds_toArray,List.set_cons_zero,List.set_cons_succ])
    refine held_take (i:=9) rfl (by kernel_rfl) (by kernel_rfl) (by kernel_rfl) (λ _ _ _ h=>h) (Or.inr ⟨by rfl,rfl⟩) hHeld ?_
    (try simp only [Act.put,List.setIfInBounds_toArray,List.set_cons_zero,List.set_cons_succ])
    refine held_take (i:=10) rfl (by kernel_rfl) (by kernel_rfl) (by kernel_rfl) (λ _ _ _ h=>h) (Or.inr ⟨by rfl,rfl⟩) hHeld ?_
    (try simp only [Act.put,List.setIfInBounds_toArray,List.set_cons_zero,List.set_cons_succ])
    refine held_take (i:=11) rfl (by kernel_rfl) (by kernel_rfl) (by kernel_rfl) (λ _ _ _ h=>h) (Or.inr ⟨by rfl,rfl⟩) hHeld ?_
    (try simp only [Act.put,List.setIfInBounds_toArray,List.set_cons_zero,List.set_cons_succ])
    refine held_take (i:=12) rfl (by kernel_rfl) (by kernel_rfl) (by kernel_rfl) (λ _ _ _ h=>h) (Or.inr ⟨by rfl,rfl⟩) hHeld ?_
    (try simp only [Act.put,List.setIfInBounds_toArray,List.set_cons_zero,List.set_cons_succ])
    refine held_take (i:=13) rfl (by kernel_rfl) (by kernel_rfl) (by kernel_rfl) (λ _ _ _ h=>h) (Or.inr ⟨by rfl,rfl⟩) hHeld ?_
    (try simp only [Act.put,List.setIfInBounds_toArray,List.set_cons_zero,List.set_cons_succ])
    refine held_take (i:=14) rfl (by kernel_rfl) (by kernel_rfl) (by kernel_rfl) (λ _ _ _ h=>h) (Or.inr ⟨by rfl,rfl⟩) hHeld ?_
    (try simp only [Act.put,List.setIfInBounds_toArray,List.set_cons_zero,List.set_cons_succ])
    refine held_take (i:=15) rfl (by kernel_rfl) (by kernel_rfl) (by kernel_rfl) (λ _ _ _ h=>h) (Or.inr ⟨by rfl,rfl⟩) hHeld ?_
    (try simp only [Act.put,List.setIfInBounds_toArray,List.set_cons_zero,List.set_cons_succ])
    refine held_take (i:=16) (v := ?_) rfl (by kernel_rfl) (by kernel_rfl) (by kernel_rfl) (λ _ _ _ h=>h) (Or.inl ⟨by rfl,?_⟩) hHeld ?_
    rotate_left
    ·intro w hSw;(try dsimp only at hSw);go_simp;(try with_reducible rfl)
    (try simp only [Act.put,List.setIfInBounds_toArray,List.set_cons_zero,List.set_cons_succ])
    refine wpAnyH_ready (rs := [19]) (by kernel_rfl) (by simp) ?_
    refine held_cons rfl (λ K hK => ?_) AllReadyH.nil
    go_simp
    refine (fail_any HC6.out false y1 y2 y3 15 (by decide)).mono ?_;rintro en w9 ⟨rfl,hk9⟩
    have HC9:=Lib.hid hk9
    clear hk9
    (try go_simp)
    refine hK.out _ _ ?_ (λ hHeld2 => ?_)
    ·(try dsimp only)
     exact HKS.out HC9.out
    clear hK K hHeld
    have hHeld:=hHeld2
    clear hHeld2
    (try simp only [Act.put,List.setIfInBounds_toArray,List.set_cons_zero,List.set_cons_succ])
    refine wpAnyH_done (by kernel_rfl) ?_ _
    clear hHeld
    have H12:=Lib.hid ((HC9.out.drop 1).iff (C':=Till g (i+1)) (by rw [Till.succ,HGi.out];simp))
    go_wp2_with fail
    go_roundw
    case measure=>simp [intOf];have:=HL.out.2.2;omega
    case rel=>exact ⟨i+1,by go_num,HL.out.2.2,H12.out⟩
   case false =>
    have hA5:∃ q1 q2 q3 e5,AN base ab x ro l ps il sts q1 q2 q3 e5 w5.drew:=Ck.toAN (e0:=e) (ls := [(xp,49, [.int .i64 kd,.int .i64 y1,.int .i64 y2,.int .i64 y3,.slice pb bn cb])]) (C:=Till g i) HA.out.1 (by rw [HH.out.2.2];exact HLd.out)
    obtain ⟨q1,q2,q3,e5,hA5⟩:=hA5
    have HA5:=Lib.hid hA5
    clear hA5
    have hmk:=λ w=>mk_bools np (by have:=HA.out.2.2;omega) w
    refine wp_region_held_drew (S:=(λ W=>W.cell? ⟨xp,0,none⟩=some (.int .i64 kd)∧W.cell? ⟨xp,1,none⟩=some (.int .i64 y1)∧W.cell? ⟨xp,2,none⟩=some (.int .i64 y2)∧W.cell? ⟨xp,3,none⟩=some (.int .i64 y3)∧W.cell? ⟨xp,4,none⟩=some (.slice pb bn cb)∧W.cell? ⟨ab,4,none⟩=some (.slice (some ⟨b,o,none⟩) np cp))) (by kernel_rfl) ?_ (λ hHeld => ?_)
    ·exact HKS.out HLd.out
    refine held_take (i:=0) (v := ?_) rfl (by kernel_rfl) (by kernel_rfl) (by kernel_rfl) (λ _ _ _ h=>h) (Or.inl ⟨by rfl,?_⟩) hHeld ?_
    rotate_left
    ·intro w hSw;(try dsimp only at hSw);go_simp;(try with_reducible rfl)
    (try simp only [Act.put,List.setIfInBounds_toArray,List.set_cons_zero,List.set_cons_succ])
    refine held_take (i:=1) (v := ?_) rfl (by kernel_rfl) (by kernel_rfl) (by kernel_rfl) (λ _ _ _ h=>h) (Or.inl ⟨by rfl,?_⟩) hHeld ?_
    rotate_left
    ·intro w hSw;(try dsimp only at hSw);go_simp;(try with_reducible rfl)
    (try simp only [Act.put,List.setIfInBounds_toArray,List.set_cons_zero,List.set_cons_succ])
    refine held_take (i:=17) (v := ?_) rfl (by kernel_rfl) (by kernel_rfl) (by kernel_rfl) (λ _ _ _ h=>h) (Or.inl ⟨by rfl,?_⟩) hHeld ?_
    rotate_left
    ·intro w hSw;(try dsimp only at hSw);go_simp;(try with_reducible rfl)
    (try simp only [Act.put,List.setIfInBounds_toArray,List.set_cons_zero,List.set_cons_succ])
    refine held_take (i:=18) (v := ?_) rfl (by kernel_rfl) (by kernel_rfl) (by kernel_rfl) (λ _ _ _ h=>h) (Or.inl ⟨by rfl,?_⟩) hHeld ?_
    rotate_left
    ·intro w hSw;(try dsimp only at hSw);go_simp;(try with_reducible rfl)
    (try simp only [Act.put,List.setIfInBounds_toArray,List.set_cons_zero,List.set_cons_succ])
    refine wpAnyH_ready (rs := [2]) (by kernel_rfl) (by simp) ?_
    refine held_cons rfl (λ K hK => ?_) AllReadyH.nil
    go_simp
    refine (HCl.out _).mono ?_;rintro en w6 ⟨rfl,hb6⟩
    have HC6:=Lib.hid (HLd.out.below hb6)
    have hrp:(List.replicate np false).getD i false=false:=by rw [List.getD,List.getElem?_replicate];split <;> rfl
    have hre:=reach_any HA5.out (falses (List.replicate np false)) i i w6.heap.size (List.replicate np false) (w6.alloc (.cells (bools (List.replicate np false)).toArray 4)) (Nat.le_refl _) (by rw [List.length_replicate];exact HA.out.2.1.symm) (by rw [HA.out.2.1];exact HL.out.2.2) (by rw [HA.out.2.1];exact HL.out.2.2) hrp (Below.next hb6 (Below.new _ _)) (Blk.new _ _) hb6.size
    rw [HA.out.2.1] at hre
    have HRe:=Lib.hid (And.intro hre hrp)
    clear hre hrp hb6
    (try go_simp)
    refine hK.out _ _ ?_ (λ hHeld2 => ?_)
    ·(try dsimp only)
     exact HKS.out HC6.out
    clear hK K hHeld
    have hHeld:=hHeld2
    clear hHeld2
    (try simp only [Act.put,List.setIfInBounds_toArray,List.set_cons_zero,List.set_cons_succ])
    refine held_take (i:=3) (v := ?_) rfl (by kernel_rfl) (by kernel_rfl) (by kernel_rfl) (λ _ _ _ h=>h) (Or.inl ⟨by rfl,?_⟩) hHeld ?_
    rotate_left
    ·intro w hSw;(try dsimp only at hSw);go_simp;(try with_reducible rfl)
    (try simp only [Act.put,List.setIfInBounds_toArray,List.set_cons_zero,List.set_cons_succ])
    refine held_take (i:=4) (v := ?_) rfl (by kernel_rfl) (by kernel_rfl) (by kernel_rfl) (λ _ _ _ h=>h) (Or.inl ⟨by rfl,?_⟩) hHeld ?_
    rotate_left
    ·intro w hSw;(try dsimp only at hSw);go_simp;(try with_reducible rfl)
    (try simp only [Act.put,List.setIfInBounds_toArray,List.set_cons_zero,List.set_cons_succ])
    refine held_take (i:=5) (v := ?_) rfl (by kernel_rfl) (by kernel_rfl) (by kernel_rfl) (λ _ _ _ h=>h) (Or.inl ⟨by rfl,?_⟩) hHeld ?_
    rotate_left
    ·intro w hSw;(try dsimp only at hSw);go_simp;(try with_reducible rfl)
    (try simp only [Act.put,List.setIfInBounds_toArray,List.set_cons_zero,List.set_cons_succ])
    refine held_take (i:=6) (v := ?_) rfl (by kernel_rfl) (by kernel_rfl) (by kernel_rfl) (λ _ _ _ h=>h) (Or.inl ⟨by rfl,?_⟩) hHeld ?_
    rotate_left
    ·intro w hSw;(try dsimp only at hSw);go_simp;(try with_reducible rfl)
    (try simp only [Act.put,List.setIfInBounds_toArray,List.set_cons_zero,List.set_cons_succ])
    refine held_take (i:=7) (v := ?_) rfl (by kernel_rfl) (by kernel_rfl) (by kernel_rfl) (λ _ _ _ h=>h) (Or.inl ⟨by rfl,?_⟩) hHeld ?_
    rotate_left
    ·intro w hSw;(try dsimp only at hSw);go_simp;(try with_reducible rfl)
    (try simp only [Act.put,List.setIfInBounds_toArray,List.set_cons_zero,List.set_cons_succ])
    refine held_take (i:=8) (v := ?_) rfl (by kernel_rfl) (by kernel_rfl) (by kernel_rfl) (λ _ _ _ h=>h) (Or.inl ⟨by rfl,?_⟩) hHeld ?_
    rotate_left
    ·intro w hSw;(try dsimp only at hSw);go_simp;(try with_reducible rfl)
    (try simp only [Act.put,List.setIfInBounds_toArray,List.set_cons_zero,List.set_cons_succ])
    refine held_take (i:=9) (v := ?_) rfl (by kernel_rfl) (by kernel_rfl) (by kernel_rfl) (λ _ _ _ h=>h) (Or.inl ⟨by rfl,?_⟩) hHeld ?_
    rotate_left
    ·intro w hSw;(try dsimp only at hSw);go_simp;(try with_reducible rfl)
    (try simp only [Act.put,List.setIfInBounds_toArray,List.set_cons_zero,List.set_cons_succ])
    refine held_take (i:=10) (v := ?_) rfl (by kernel_rfl) (by kernel_rfl) (by kernel_rfl) (λ _ _ _ h=>h) (Or.inl ⟨by rfl,?_⟩) hHeld ?_
    rotate_left
    ·intro w hSw;(try dsimp only at hSw);go_simp;(try with_reducible rfl)
    (try simp only [Act.put,List.setIfInBounds_toArray,List.set_cons_zero,List.set_cons_succ])
    refine held_take (i:=11) (v := ?_) rfl (by kernel_rfl) (by kernel_rfl) (by kernel_rfl) (λ _ _ _ h=>h) (Or.inl ⟨by rfl,?_⟩) hHeld ?_
    rotate_left
    ·intro w hSw;(try dsimp only at hSw);go_simp;(try with_reducible rfl)
    (try simp only [Act.put,List.setIfInBounds_toArray,List.set_cons_zero,List.set_cons_succ])
    refine held_take (i:=12) (v := ?_) rfl (by kernel_rfl) (by kernel_rfl) (by kernel_rfl) (λ _ _ _ h=>h) (Or.inl ⟨by rfl,?_⟩) hHeld ?_
    rotate_left
    ·intro w hSw;(try dsimp only at hSw);go_simp;(try with_reducible rfl)
    (try simp only [Act.put,List.setIfInBounds_toArray,List.set_cons_zero,List.set_cons_succ])
    refine held_take (i:=13) (v := ?_) rfl (by kernel_rfl) (by kernel_rfl) (by kernel_rfl) (λ _ _ _ h=>h) (Or.inl ⟨by rfl,?_⟩) hHeld ?_
    rotate_left
    ·intro w hSw;(try dsimp only at hSw);go_simp;(try with_reducible rfl)
    (try simp only [Act.put,List.setIfInBounds_toArray,List.set_cons_zero,List.set_cons_succ])
    refine wpAnyH_ready (rs := [14]) (by kernel_rfl) (by simp) ?_
    refine held_cons rfl (λ K hK => ?_) AllReadyH.nil
    go_simp
    refine hK.out _ _ ?_ (λ hHeld2 => ?_)
    ·(try dsimp only)
     exact HKS.out (HC6.out.below (Below.new _ _))
    clear hK K hHeld
    have hHeld:=hHeld2
    clear hHeld2
    (try simp only [Act.put,List.setIfInBounds_toArray,List.set_cons_zero,List.set_cons_succ])
    refine wpAnyH_ready (rs := [15]) (by kernel_rfl) (by simp) ?_
    refine held_cons rfl (λ K hK => ?_) AllReadyH.nil
    go_simp
    refine HRe.out.1.mono ?_;rintro en w8 ⟨r,S',rfl,hb8,hu8,ht8,hf8⟩
    have hr:r=wyB l ps i:=by
     cases r
     ·have hn:=(hf8 rfl).way (λ j=>by rw [List.getD,List.getElem?_replicate];split <;> rfl) (i:=i) rfl
      rw [Eq.comm,←Bool.not_eq_true,wyB_iff];exact hn
     ·exact (wyB_iff.2 (ht8 rfl)).symm
    have hc7:Ck ab h w e [(xp,49, [.int .i64 kd,.int .i64 y1,.int .i64 y2,.int .i64 y3,.slice pb bn cb])] (Till g i) (w6.alloc (.cells (bools (List.replicate np false)).toArray 4)):=HC6.out.below (Below.new _ _)
    have hxb:xp<w6.heap.size∧ab<w6.heap.size∧w.heap.size≤w6.heap.size:=⟨(HC6.out.at 0 rfl).lt,by have:=HC6.out.lt;have:=HC6.out.size;omega,HC6.out.size⟩
    have hc8:Ck ab h w e [(xp,49, [.int .i64 kd,.int .i64 y1,.int .i64 y2,.int .i64 y3,.slice pb bn cb])] (Till g i) w8:=hc7.upd hu8 (λ k hk=>by have hk2:k=w6.heap.size:=hk;omega) (λ k hk y hy=>by have hk2:k=w6.heap.size:=hk;rw [List.mem_singleton] at hy;rw [hy];show xp≠k;omega)
    have HC8:=Lib.hid hc8
    subst hr
    clear hb8 hu8 ht8 hf8 hc7 hxb hc8
    (try go_simp)
    refine hK.out _ _ ?_ (λ hHeld2 => ?_)
    ·(try dsimp only)
     exact HKS.out HC8.out
    clear hK K hHeld
    have hHeld:=hHeld2
    clear hHeld2
    (try simp only [Act.put,List.setIfInBounds_toArray,List.set_cons_zero,List.set_cons_succ])
    refine held_take (i:=16) (v := ?_) rfl (by kernel_rfl) (by kernel_rfl) (by kernel_rfl) (λ _ _ _ h=>h) (Or.inl ⟨by rfl,?_⟩) hHeld ?_
    rotate_left
    ·intro w hSw;(try dsimp only at hSw);go_simp;(try with_reducible rfl)
    (try simp only [Act.put,List.setIfInBounds_toArray,List.set_cons_zero,List.set_cons_succ])
    refine wpAnyH_ready (rs := [19]) (by kernel_rfl) (by simp) ?_
    refine held_cons rfl (λ K hK => ?_) AllReadyH.nil
    go_simp
    refine (fail_any HC8.out (wyB l ps i) y1 y2 y3 15 (by decide)).mono ?_;rintro en w9 ⟨rfl,hk9⟩
    have HC9:=Lib.hid hk9
    clear hk9
    (try go_simp)
    refine hK.out _ _ ?_ (λ hHeld2 => ?_)
    ·(try dsimp only)
     exact HKS.out HC9.out
    clear hK K hHeld
    have hHeld:=hHeld2
    clear hHeld2
    (try simp only [Act.put,List.setIfInBounds_toArray,List.set_cons_zero,List.set_cons_succ])
    refine wpAnyH_done (by kernel_rfl) ?_ _
    clear hmk
    clear hHeld
    have H12:=Lib.hid ((HC9.out.drop 1).iff (C':=Till g (i+1)) (by rw [Till.succ,HGi.out];simp))
    go_wp2_with fail
    go_roundw
    case measure=>simp [intOf];have:=HL.out.2.2;omega
    case rel=>exact ⟨i+1,by go_num,HL.out.2.2,H12.out⟩
  ·obtain rfl:np=i:=by omega
   have hii:¬(np:Int)<(np:Int):=by omega
   have HCr:=Lib.hid hCr
   clear hlt hin hCr
   obtain ⟨LC,hLC⟩:∃ C:Prop,Till g np=C:=⟨_,rfl⟩
   rw [hLC] at HCr
   have HLC:Hid (loopC l ps↔LC):=Lib.hid (by unfold loopC;rw [HA.out.2.1,HG.out,hLC])
   clear hLC
   have a4:=HCr.out.cell (i:=4) (v := .slice pp np cp) (λ _ _ _ _=>congrArg some HH.out.1)
   have hmk:=λ w=>mk_bools np (by have:=HA.out.2.2;omega) w
   have hO:OrS ab h w e [] LC wr.heap.size (List.replicate np false) (.slice none 0 0) [] (wr.alloc (.cells (bools (List.replicate np false)).toArray 4)):=⟨HCr.out.below (Below.new _ _),Blk.new _ _,HCr.out.size,World.ownsRow_nil _ _ _ _,λ e=>(by cases e),λ y hy=>(by cases hy)⟩
   have HO:=Lib.hid hO
   clear hO
   go_wp2_with fail
   obtain ⟨db,hdb⟩:∃ b,wr.heap.size=b:=⟨_,rfl⟩
   rw [hdb] at HO ⊢
   generalize wr.alloc (.cells (bools (List.replicate np false)).toArray 4)=w8 at *
   clear hdb hmk a4
   have HI0:Hid (OrdI l ps (List.replicate np false) []∧falses (List.replicate np false)+0=np):=Lib.hid ⟨by rw [←HA.out.2.1];exact OrdI.start l ps,by rw [Nat.add_zero];exact falses_repl np⟩
   go_loopw [5] (λ ov wr=>∃ (out:List Nat) (dn:List Bool),OrS ab h w e [] LC db dn ov out wr∧OrdI l ps dn out∧falses dn+out.length=np∧lenV ov=out.length) (λ ov _=>np-lenV ov)
   case atStart=>exact ⟨[],_,HO.out,HI0.out.1,HI0.out.2,rfl⟩
   case round =>
    obtain ⟨out,dn,hOr,hI,hfa,hlv⟩:=hrel
    obtain ⟨ovp,ovc,hove⟩:=ownsRow_form hOr.own
    subst hove
    obtain ⟨q1,q2,q3,ee,hbe,hie⟩:=hOr.ck.an
    have a13:=hbe.cell (i:=13) rfl
    obtain ⟨ez,hez⟩:∃ z,(ee == 0)=z:=⟨_,rfl⟩
    have hez2:(e=0∧LC)↔ez=true:=by rw [←hie,←hez];simp
    have HR:=Lib.hid (And.intro hOr (And.intro hI (And.intro hfa (And.intro hlv hez2))))
    clear hOr hI hfa hlv hez2 hbe hie
    cases ez
    case false =>
     go_wp2_with fail
     go_ret
     refine ⟨out,_,dn,rfl,HR.out.1.own,HR.out.1.ck.iff HLC.out.symm,λ h0 h1 => ?_⟩
     have:=HR.out.2.2.2.2.1 ⟨h0,HLC.out.1 h1⟩
     cases this
    case true =>
     have a4:=HR.out.1.ck.cell (i:=4) (v := .slice pp np cp) (λ _ _ _ _=>congrArg some HH.out.1)
     go_upto_block 4 with fail
     clear a13
     go_cut [7] from 62 to 104 (λ v wz=>OrS ab h w e [] LC db dn (.slice ovp out.length ovc) out wz∧((v = .int .i64 (-1)∧∀ i,i<np→frK l ps dn i np=false)∨∃ i:Nat,v = .int .i64 i∧i<np∧frK l ps dn i np=true))
     case first =>
      have HO1:=Lib.hid HR.out.1
      go_wp2_with fail
      go_loopw [62,7] (λ iv vn wr=>∃ i:Nat,iv = .int .i64 i∧vn = .int .i64 (-1)∧i≤np∧OrS ab h w e [] LC db dn (.slice ovp out.length ovc) out wr∧∀ j,j<i→frK l ps dn j np=false) (λ iv _ _=>np-(intOf iv).toNat)
      case atStart=>exact ⟨0,rfl,rfl,Nat.zero_le _,HO1.out,λ j hj=>absurd hj (Nat.not_lt_zero _)⟩
      case round =>
       obtain ⟨i,rfl,rfl,hin,hOi,hno⟩:=hrel
       clear a4
       by_cases hlt:i<np
       ·skip
        have hii:(i:Int)<(np:Int):=by omega
        have hi0:(0:Int)≤(i:Int):=by omega
        have hiw:IntKind.i64.wrap ((i:Int)+1)=((i+1:Nat):Int):=by rw [i64_of (by have:=HA.out.2.2;omega)];rfl
        obtain ⟨q,hq⟩:∃ q,ps[i]? = some q:=⟨_,List.getElem?_eq_getElem (by rw [HA.out.2.1];exact hlt)⟩
        have hDr:=HA.out.1.dd.low (hOi.ck.low HA.out.1.hb)
        obtain ⟨b,o,pb,cb,bc,hpp,hrg,_,_⟩:=hDr.at hq
        have hpe:=HH.out.2.1
        rw [hpp] at hpe
        subst hpe
        clear hpp
        have hgd:ps.getD i default=q:=by rw [List.getD,hq];rfl
        obtain ⟨kd,y1,y2,y3,body⟩:=q
        dsimp only at hrg
        obtain ⟨bn,hbn⟩:∃ n,body.len=n:=⟨_,rfl⟩
        rw [hbn] at hrg
        have c0:=hrg 0 _ rfl
        have c1:=hrg 1 _ rfl
        have c2:=hrg 2 _ rfl
        have c3:=hrg 3 _ rfl
        have c4:=hrg 4 _ rfl
        rw [Nat.add_zero] at c0
        have hkd:(ps.getD i default).kind=kd:=by rw [hgd]
        have hdi:=bools_at dn i (by rw [HR.out.2.1.len,HA.out.2.1];exact hlt)
        have hOl:=hOi.lay 49 [.int .i64 kd,.int .i64 y1,.int .i64 y2,.int .i64 y3,.slice pb bn cb]
        change OrS _ _ _ _ _ _ _ _ _ _ (wr.alloc (.cells #[.int .i64 kd,.int .i64 y1,.int .i64 y2,.int .i64 y3,.slice pb bn cb] 49)) at hOl
        have hf0:frK l ps dn i 0=(!dn.getD i false && !decide (kd=3)):=by unfold frK;rw [hkd]
        obtain ⟨di,hdie⟩:∃ d,dn.getD i false=d:=⟨_,rfl⟩
        rw [hdie] at hf0 hdi
        obtain ⟨cb3,hcb⟩:∃ c,decide (kd=3)=c:=⟨_,rfl⟩
        rw [hcb] at hf0
        have HCl:=Lib.hid (λ w=>clocked_b (w:=w) kd y1 y2 y3 pb bn cb hcb)
        have HL:=Lib.hid (And.intro hOl (And.intro hf0 (And.intro hlt (And.intro hno hdi))))
        clear hOi hDr hgd hq hrg hbn hlt hin hOl hf0 hno hdi hdie hcb hkd
        go_upto_region 13 with fail
        obtain ⟨xp,hxp⟩:∃ b,wr.heap.size=b:=⟨_,rfl⟩
        rw [hxp] at HL ⊢
        generalize wr.alloc (.cells #[.int .i64 kd,.int .i64 y1,.int .i64 y2,.int .i64 y3,.slice pb bn cb] 49)=w5 at *
        clear hxp c0 c1 c2 c3 c4
        go_cut [10] from 67 to 77 (λ v wz=>v = .bool (frK l ps dn i 0)∧OrS ab h w e [(xp,49, [.int .i64 kd,.int .i64 y1,.int .i64 y2,.int .i64 y3,.slice pb bn cb])] LC db dn (.slice ovp out.length ovc) out wz)
        case first =>
         have d0:=HL.out.1.row.cell HL.out.2.2.2.2
         have xp0:=(HL.out.1.ck.at 0 rfl).cell (i:=0) rfl
         have xp1:=(HL.out.1.ck.at 0 rfl).cell (i:=1) rfl
         have xp2:=(HL.out.1.ck.at 0 rfl).cell (i:=2) rfl
         have xp3:=(HL.out.1.ck.at 0 rfl).cell (i:=3) rfl
         have xp4:=(HL.out.1.ck.at 0 rfl).cell (i:=4) rfl
         cases di
         case true =>
          go_wp2_with fail
          go_meet
          exact ⟨by rw [HL.out.2.1];simp,HL.out.1⟩
         case false =>
          go_wp2_with fail
          refine (HCl.out _).mono ?_;rintro en w6 ⟨rfl,hb6⟩
          have H6:=Lib.hid (HL.out.1.below hb6)
          clear hb6 d0 xp0 xp1 xp2 xp3 xp4
          cases cb3
          case false =>
           go_wp2_with fail
           go_meet
           exact ⟨by rw [HL.out.2.1];simp,H6.out⟩
          case true =>
           go_wp2_with fail
           go_meet
           exact ⟨by rw [HL.out.2.1];simp,H6.out⟩
        case rest =>
         obtain ⟨rfl,hOc⟩:=hcut
         have HOc:=Lib.hid hOc
         clear hOc
         have a4:=HOc.out.ck.cell (i:=4) (v := .slice (some ⟨b,o,none⟩) np cp) (λ _ _ _ _=>congrArg some HH.out.1)
         go_wp2_with fail
         go_loopw [83,10] (λ kv fv wr=>∃ k:Nat,kv = .int .i64 k∧fv = .bool (frK l ps dn i k)∧k≤np∧OrS ab h w e [(xp,49, [.int .i64 kd,.int .i64 y1,.int .i64 y2,.int .i64 y3,.slice pb bn cb])] LC db dn (.slice ovp out.length ovc) out wr) (λ kv _ _=>np-(intOf kv).toNat)
         case atStart=>exact ⟨0,rfl,rfl,Nat.zero_le _,HOc.out⟩
         case round =>
          obtain ⟨k,rfl,rfl,hkn,hOk⟩:=hrel
          clear a4
          by_cases hlt:k<np
          ·have hkk:(k:Int)<(np:Int):=by omega
           have hk0:(0:Int)≤(k:Int):=by omega
           have hkw:IntKind.i64.wrap ((k:Int)+1)=((k+1:Nat):Int):=by rw [i64_of (by have:=HA.out.2.2;omega)];rfl
           have hdk:=bools_at dn k (by rw [HR.out.2.1.len,HA.out.2.1];exact hlt)
           have d0:=hOk.row.cell hdk
           obtain ⟨dk,hdk2⟩:∃ d,dn.getD k false=d:=⟨_,rfl⟩
           rw [hdk2] at d0
           obtain ⟨r1,r2,r3,e7,hA7⟩:∃ q1 q2 q3 e5,AN base ab x ro l ps il sts q1 q2 q3 e5 wr:=Ck.toAN (e0:=e) (ls := [(xp,49, [.int .i64 kd,.int .i64 y1,.int .i64 y2,.int .i64 y3,.slice pb bn cb])]) (C:=LC) HA.out.1 (by rw [HH.out.2.2];exact hOk.ck)
           have hle:=pleads_any hA7 k i (by rw [HA.out.2.1];exact hlt) (by rw [HA.out.2.1];exact HL.out.2.2.1)
           obtain ⟨ld,hld⟩:∃ v,leadsP l ps k i=v:=⟨_,rfl⟩
           rw [hld] at hle
           obtain ⟨f0,hf0⟩:∃ f,frK l ps dn i k=f:=⟨_,rfl⟩
           have hf1:frK l ps dn i (k+1)=(f0 && (dk || !ld)):=by rw [frK,hf0,hdk2,hld]
           rw [hf0]
           have HK:=Lib.hid (And.intro hOk (And.intro hle (And.intro hf1 hlt)))
           clear hOk hle hf1 hlt hkn hdk hdk2 hA7 hld hf0
           cases f0
           case false =>
            clear d0
            go_wp2_with fail
            go_roundw
            case measure=>simp [intOf];have:=HK.out.2.2.2;omega
            case rel=>exact ⟨k+1,by go_num,by rw [HK.out.2.2.1];simp,HK.out.2.2.2,HK.out.1⟩
           case true =>
            cases dk
            case true =>
             go_wp2_with fail
             go_roundw
             case measure=>simp [intOf];have:=HK.out.2.2.2;omega
             case rel=>exact ⟨k+1,by go_num,by rw [HK.out.2.2.1];simp,HK.out.2.2.2,HK.out.1⟩
            case false =>
             go_wp2_with fail
             refine HK.out.2.1.mono ?_;rintro en w9 ⟨rfl,hb9⟩
             have H9:=Lib.hid (HK.out.1.below hb9)
             clear hb9 d0
             cases ld
             case false =>
              go_wp2_with fail
              go_roundw
              case measure=>simp [intOf];have:=HK.out.2.2.2;omega
              case rel=>exact ⟨k+1,by go_num,by rw [HK.out.2.2.1];simp,HK.out.2.2.2,H9.out⟩
             case true =>
              go_wp2_with fail
              go_roundw
              case measure=>simp [intOf];have:=HK.out.2.2.2;omega
              case rel=>exact ⟨k+1,by go_num,by rw [HK.out.2.2.1];simp,HK.out.2.2.2,H9.out⟩
          ·obtain rfl:np=k:=by omega
           have hkk:¬(np:Int)<(np:Int):=by omega
           obtain ⟨f0,hf0⟩:∃ f,frK l ps dn i np=f:=⟨_,rfl⟩
           rw [hf0]
           have HK:=Lib.hid (And.intro (hOk.drop 1) hf0)
           clear hOk hlt hkn hf0
           cases f0
           case true =>
            go_wp2_with fail
            go_meet
            exact ⟨HK.out.1,.inr ⟨i,rfl,HL.out.2.2.1,HK.out.2⟩⟩
           case false =>
            go_wp2_with fail
            go_roundw
            case measure=>simp [intOf];have:=HL.out.2.2.1;omega
            case rel =>
             refine ⟨i+1,by go_num,rfl,HL.out.2.2.1,HK.out.1,λ j hj => ?_⟩
             by_cases ej:j=i
             ·subst ej;exact HK.out.2
             ·exact HL.out.2.2.2.1 j (by omega)
       ·obtain rfl:np=i:=by omega
        have hii:¬(np:Int)<(np:Int):=by omega
        have HK:=Lib.hid (And.intro hOi hno)
        clear hOi hno hlt hin
        go_wp2_with fail
        go_meet
        exact ⟨HK.out.1,.inl ⟨rfl,HK.out.2⟩⟩
     case rest =>
      obtain ⟨hOc,hnx⟩:=hcut
      have HOc:=Lib.hid hOc
      clear hOc a4
      rcases hnx with ⟨rfl,hno⟩ | ⟨i,rfl,hin,hfr⟩
      ·have HNo:=Lib.hid hno
       clear hno
       go_wp2_with fail
       go_ret
       exact ⟨out,_,dn,rfl,HOc.out.own,HOc.out.ck.iff HLC.out.symm,λ _ _=>⟨HR.out.2.1,λ i hi=>by rw [HA.out.2.1];exact HNo.out i (by rw [←HA.out.2.1];exact hi)⟩⟩
      ·have hi0:(0:Int)≤(i:Int):=by omega
       have hii:(i:Int)<(np:Int):=by omega
       have hin2:¬(i:Int)<0:=by omega
       have hdl:i<dn.length:=by rw [HR.out.2.1.len,HA.out.2.1];exact hin
       have d0:=HOc.out.row.cell (bools_at dn i hdl)
       have f0:=HOc.out.row.frz i
       have hstp:=HR.out.2.1.step (i:=i) (by rw [HA.out.2.1];exact hin) (by rw [HA.out.2.1];exact hfr)
       have hfs:=falses_set dn i (by rw [List.getElem?_eq_getElem hdl];have:=(frK_at hfr).1;rw [List.getD,List.getElem?_eq_getElem hdl] at this;exact congrArg some this)
       have hO9:=HOc.out.set i true
       have hO10:=hO9.below (Below.new _ (.cells #[.int .i64 i] 3))
       have hro:RO ((wc.setCell ⟨db,i,none⟩ (.bool true)).alloc (.cells #[.int .i64 i] 3)) (.slice (some ⟨(wc.setCell ⟨db,i,none⟩ (.bool true)).heap.size,0,none⟩) 1 1) 1 1 [.int .i64 (i:Nat)]:=(Blk.new (w:=wc.setCell ⟨db,i,none⟩ (.bool true)) 3 [.int .i64 (i:Nat)]).roa.ro
       rw [show (wc.setCell ⟨db,i,none⟩ (.bool true)).heap.size=wc.heap.size by simp] at hro
       have HN:=Lib.hid (And.intro hO10 (And.intro hro (And.intro hstp (And.intro hfs hin))))
       clear hO9 hO10 hro hstp hfs hdl hfr hin
       go_upto_region 24 with fail
       go_wp2_with (at_builtin;go_must (refine wpList_appR rfl _ _ 26 rfl TIntsF w.heap.size (.slice ovp out.length ovc) out.length (natInts out) rfl HN.out.1.own _ 1 [.int .i64 (i:Nat)] rfl HN.out.2.1 (by simp [Value.oneCell']) (by have:=HR.out.2.2.1;have:=HA.out.2.2;omega) (by have:=HR.out.2.2.1;have:=HA.out.2.2;omega) HN.out.1.ck.size ?_);intro v11 w11 happ;have HP:=Lib.hid happ;clear happ)
       have hO12:=HN.out.1.app HP.out
       have hlv:lenV v11=out.length+1:=by obtain ⟨_,_,e9⟩:=ownsRow_form HP.out.own;rw [e9];rfl
       have H12:=Lib.hid (And.intro hO12 hlv)
       clear hO12 hlv
       go_roundw
       case measure=>rw [H12.out.2];have:=HR.out.2.2.1;have:=HR.out.2.2.2.1;have:=HN.out.2.2.2.1;simp [lenV];omega
       case rel=>exact ⟨out ++ [i],dn.set i true,H12.out.1,HN.out.2.2.1,by have:=HR.out.2.2.1;have:=HN.out.2.2.2.1;rw [List.length_append,List.length_singleton];omega,by rw [H12.out.2,List.length_append,List.length_singleton]⟩
end Go.Proofs.Ytlklleaocbnbcaa
