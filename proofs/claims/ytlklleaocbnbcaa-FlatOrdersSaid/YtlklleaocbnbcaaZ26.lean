import Derived.Test.YtlklleaocbnbcaaZ25
namespace Go.Proofs.Ytlklleaocbnbcaa
set_option linter.unusedVariables false
open Go.RowKit Go.Sort
def nowB (l:List Sg) (ps:List Pr) (i s:Nat):List Bool:=(writesP (sizes l) kSet (ps.getD i default).body).getD s []
def laterB (l:List Sg) (ps:List Pr) (i s:Nat):List Bool:=(writesP (sizes l) kLater (ps.getD i default).body).getD s []
def roleV (kd:Nat) (we ne:Bool) (old:Int):Int:=if we then old else if kd=3 then (if ne then 3 else 4) else 2
def roleA (l:List Sg) (ps:List Pr):Nat→Nat→Int
 | 0,_=>0
 | i+1,s=>roleV (ps.getD i default).kind (wrB l ps i s).isEmpty (nowB l ps i s).isEmpty (roleA l ps i s)
def roleW (l:List Sg) (ps:List Pr) (s:Nat):Int:=if 0<(l.getD s default).words then 5 else roleA l ps ps.length s
def roleF (l:List Sg) (ps:List Pr) (il:List Int) (s:Nat):Int:=if il.contains (s:Int) then 1 else roleW l ps s
def rolesP (l:List Sg) (ps:List Pr) (il:List Int):List Int:=(List.range l.length).map (roleF l ps il)
def rlF (N:Nat) (f:Nat→Int):List Int:=(List.range N).map f
theorem rlF_congr {N:Nat} {f g:Nat→Int} (h:∀ t,t<N→f t=g t):rlF N f=rlF N g:=List.map_congr_left λ t ht=>h t (List.mem_range.1 ht)
theorem rlF_at {N:Nat} (f:Nat→Int) {s:Nat} (hs:s<N):(ints (rlF N f))[s]? = some (.int .i64 (f s)):=by
 unfold ints rlF
 rw [List.getElem?_map,List.getElem?_map,List.getElem?_range hs];rfl
theorem rlF_set {N:Nat} (f:Nat→Int) (s:Nat) (v:Int):(ints (rlF N f)).set s (.int .i64 v)=ints (rlF N λ t=>if t=s then v else f t):=by
 unfold ints rlF
 apply List.ext_getElem?
 intro j
 rw [List.getElem?_set]
 simp only [List.getElem?_map,List.length_map,List.length_range]
 by_cases hj:j<N
 ·rw [List.getElem?_range hj]
  by_cases e:s=j
  ·subst e;simp [hj]
  ·rw [if_neg e]
   have:¬j=s:=λ e'=>e e'.symm
   simp [this]
 ·have hn:(List.range N)[j]? = none:=List.getElem?_eq_none (by rw [List.length_range];omega)
  rw [hn]
  split
  ·rename_i e;subst e;simp [hj]
  ·rfl
structure RoS (rb:Nat) (w1:World) (ls:Bx) (cs:List Value) (W:World):Prop where
 row:Blk W rb 3 cs
 up:Upd (One rb) (One rb) w1 W
 blk:∀ x∈ls,Blk W x.1 x.2.1 x.2.2∧w1.heap.size≤x.1
 lt:rb<w1.heap.size
section
variable {rb:Nat} {w1 W W':World} {ls:Bx} {cs:List Value}
theorem RoS.start (h:Blk w1 rb 3 cs):RoS rb w1 [] cs w1:=⟨h,Upd.refl _ _,λ x hx=>(by cases hx),h.lt⟩
theorem RoS.below (hc:RoS rb w1 ls cs W) (hb:Below W.heap.size W W'):RoS rb w1 ls cs W' :=
 ⟨hc.row.next hb,hc.up.trans (Upd.below hb),λ x hx=>⟨(hc.blk x hx).1.next hb,(hc.blk x hx).2⟩,hc.lt⟩
theorem RoS.lay (hc:RoS rb w1 ls cs W) (t:Nat) (c:List Value):RoS rb w1 ((W.heap.size,t,c)::ls) cs (W.alloc (.cells c.toArray t)):=by
 have h':=hc.below (Below.new W (.cells c.toArray t))
 refine ⟨h'.row,h'.up,λ x hx => ?_,h'.lt⟩
 rcases List.mem_cons.1 hx with rfl | hx
 ·exact ⟨Blk.new _ _,hc.up.size⟩
 ·exact h'.blk x hx
theorem RoS.drop (hc:RoS rb w1 ls cs W) (j:Nat):RoS rb w1 (ls.drop j) cs W:=⟨hc.row,hc.up,λ x hx=>hc.blk x (List.mem_of_mem_drop hx),hc.lt⟩
theorem RoS.ne (hc:RoS rb w1 ls cs W) {x} (hx:x∈ls):x.1≠rb:=by have:=(hc.blk x hx).2;have:=hc.lt;omega
theorem RoS.set (hc:RoS rb w1 ls cs W) (s:Nat) (v:Value):RoS rb w1 ls (cs.set s v) (W.setCell ⟨rb,s,none⟩ v):=by
 refine ⟨hc.row.set s v,⟨hc.up.os,hc.up.tape,hc.up.output,by simpa using hc.up.size,λ k hk hn => ?_,hc.up.sub⟩,λ x hx=>⟨(hc.blk x hx).1.other _ (hc.ne hx),(hc.blk x hx).2⟩,hc.lt⟩
 rw [Below.heap_setCell _ _ _ _ (λ e=>hn e)]
 exact hc.up.block k hk hn
theorem RoS.at (hc:RoS rb w1 ls cs W) (j:Nat) {b t:Nat} {l:List Value} (hj:ls[j]? = some (b,t,l)):Blk W b t l:=(hc.blk _ (List.mem_of_getElem? hj)).1
theorem RoS.old (hc:RoS rb w1 ls cs W) {b:Nat} (hb:b<w1.heap.size) (hn:b≠rb):W.heap[b]? = w1.heap[b]? := hc.up.block b hb (λ e=>hn e)
theorem RoS.blk0 (hc:RoS rb w1 ls cs W) {b t:Nat} {l:List Value} (hb:Blk w1 b t l) (hn:b≠rb):Blk W b t l:=by
 unfold Blk at hb ⊢
 rw [hc.old (some_lt hb) hn];exact hb
theorem RoS.cell0 (hc:RoS rb w1 ls cs W) {a:Addr} {v:Value} (hv:w1.cell? a=some v) (hn:a.block≠rb):W.cell? a=some v :=
 (World.cell?_of_block (hc.old (World.block_lt_of_cell? _ _ hv) hn)).trans hv
theorem RoS.low (hc:RoS rb w1 ls cs W) {base:Nat} (hb:base≤rb):Below base w1 W:=hc.up.lowF (λ b e=>by have e':b=rb:=e;omega) (by have:=hc.lt;omega)
theorem RoS.ud (hc:RoS rb w1 ls cs W) {x:AX} {l:List Sg} {ps:List Pr} (hU:UD (λ b=>b≠rb) w1 x l ps):UD (λ b=>b≠rb) W x l ps:=hU.turn λ b hb hlt=>⟨hb,hc.old hlt hb⟩
theorem RoS.next (hc:RoS rb w1 ls cs W):RoS rb W [] cs W∧∀ {ls' cs' W'},RoS rb W ls' cs' W'→RoS rb w1 ls cs' W':=by
 refine ⟨⟨hc.row,Upd.refl _ _,λ x hx=>(by cases hx),hc.row.lt⟩,λ h=>⟨h.row,hc.up.trans h.up,λ x hx=>⟨?_,(hc.blk x hx).2⟩,hc.lt⟩⟩
 exact h.blk0 (hc.blk x hx).1 (hc.ne hx)
end
def UsV (b0 N:Nat) (u:Us) (v:Value) (W:World):Prop:=∃ g V b',v=usV g N∧b0≤b'∧UsM b' g W u V
theorem Blk.roa {w:World} {b t:Nat} {l:List Value} (h:Blk w b t l):ROA (λ k=>k<w.heap.size) w (.slice (some ⟨b,0,none⟩) l.length l.length) 1 l.length l :=
 ⟨by simp,_,_,rfl,Nat.le_refl _,λ j u hj=>⟨b,0,rfl,h.lt,by rw [Nat.zero_add];exact h.cell hj⟩⟩
theorem mono_sl {n t:Nat} {tab:List Value}:(Sp.rel (λ v W=>∃ L,v = .slice (some ⟨L,0,none⟩) n n∧Blk W L t tab) (λ _ => [])).Mono:=λ _ _ _ hb ⟨L,h1,h2⟩=>⟨L,h1,h2.next hb⟩
theorem mono_us {b0 N:Nat} {u:Us}:(Sp.rel (UsV b0 N u) (λ _ => [])).Mono:=λ _ _ _ hb ⟨g,V,b',h1,h2,h3⟩=>⟨g,V,b',h1,h2,h3.below hb⟩
theorem kSet_ok:∀ k:Nat,([1]:List Int).contains (k:Int)=kSet k:=λ k=>by
 unfold kSet;rw [Bool.eq_iff_iff];simp;omega
theorem kLater_ok:∀ k:Nat,([2]:List Int).contains (k:Int)=kLater k:=λ k=>by
 unfold kLater;rw [Bool.eq_iff_iff];simp;omega
theorem kAll_ok:∀ k:Nat,([1,2]:List Int).contains (k:Int)=kAll k:=λ k=>by
 unfold kAll;rw [Bool.eq_iff_iff];simp;omega
theorem nowB_at (l:List Sg) (ps:List Pr) (i:Nat) {s:Nat} (hs:s<l.length):(writesP (sizes l) kSet (ps.getD i default).body)[s]? = some (nowB l ps i s):=by
 unfold nowB
 exact us_at (n:=l.length) (by rw [writesP_len];simp [sizes]) hs
theorem laterB_at (l:List Sg) (ps:List Pr) (i:Nat) {s:Nat} (hs:s<l.length):(writesP (sizes l) kLater (ps.getD i default).body)[s]? = some (laterB l ps i s):=by
 unfold laterB
 exact us_at (n:=l.length) (by rw [writesP_len];simp [sizes]) hs
theorem info_int:(Try.prog.info? 3).map (λ i=>(i.zero,i.size,i.bytes))=some (some (.int .i64 0),1,8):=by kernel_rfl
set_option maxRecDepth 100000 in
theorem mk_ints (n:Nat) (hn:n≤1000000) (w:World):(Instr.makeSlice 26 (.int .i64 n) (.int .i64 n)).run Try.prog w = .ok (.slice (some ⟨w.heap.size,0,none⟩) n n) (w.alloc (.cells (ints (rlF n λ _=>0)).toArray 3)):=by
 obtain ⟨i0,hi,hz0,hz1,hz2⟩:=info_parts info_int
 have h:=run_make (P:=Try.prog) w 26 3 i0 _ Try.underlying26 hi hz0 .i64 .i64 n n (by omega) (by omega) (by rw [hz2];omega) (by omega)
 rw [h,hz1]
 simp only [Int.toNat_natCast,Nat.mul_one,Value.cells]
 congr 3
 apply Array.ext'
 rw [toList_madeCells_one]
 show List.replicate n (Value.int .i64 0)=ints (rlF n λ _=>0)
 unfold ints rlF
 rw [List.map_map]
 show _=List.map (λ _=>Value.int .i64 0) (List.range n)
 rw [List.map_const',List.length_range]
def RoleQ (ab:Nat) (f:Value→AHd) (N:Nat) (rl:List Int) (p1 p2 p3 e0:Int) (w:World) (e:Ending) (w':World):Prop :=
 e = .returned (.tuple #[])∧∃ rb,w.heap.size≤rb∧Blk w' ab 103 ((f (.slice (some ⟨rb,0,none⟩) N N)).cells p1 p2 p3 e0)∧Blk w' rb 3 (ints rl)∧Upd (One ab) (One ab) w w'
set_option maxRecDepth 100000 in
set_option maxHeartbeats 8000000 in
theorem prole_any {base ab:Nat} {w:World} {x:AX} {l:List Sg} {ps:List Pr} {il:List Int} {sts:List (Nat × List Bool)} {ro:Value} {p1 p2 p3 e:Int} (hro:∃ p n c,ro = .slice p n c) (hb:Blk w ab 103 ((x.h l.length il.length ps.length sts.length ro).cells p1 p2 p3 e)) (hD:DD base w x l ps il sts) (hU:UD (λ b=>b≠ab) w x l ps) (hbase:base≤ab) (hin:∀ v∈il,0≤v∧v<(l.length:Int)) :
  Calls Try.prog 26 #[.pointer (some ⟨ab,0,none⟩)] w (RoleQ ab (x.h l.length il.length ps.length sts.length) l.length (rolesP l ps il) p1 p2 p3 e w):=by
 obtain ⟨sp,sc,lp,ln,lc,ip,ic,op,on,oc,pp,cp,qp,qn,qc,tp,tc,dp,dc,wp,wcc⟩:=x
 obtain ⟨rop,ron,roc,rfl⟩:=hro
 obtain ⟨np,hnp⟩:∃ n,ps.length=n:=⟨_,rfl⟩
 obtain ⟨N,hN⟩:∃ n,l.length=n:=⟨_,rfl⟩
 obtain ⟨ni,hni⟩:∃ n,il.length=n:=⟨_,rfl⟩
 obtain ⟨nt,hnt⟩:∃ n,sts.length=n:=⟨_,rfl⟩
 have HD:=Lib.hid (And.intro hD (And.intro hnp (And.intro (show np≤1000 by rw [←hnp];exact hD.np) (And.intro hbase (And.intro hU (And.intro hN (And.intro (show N≤1000 by rw [←hN];exact hD.sg.le) (And.intro hni hin))))))))
 rw [hN,hni,hnp,hnt] at hb
 dsimp only [AX.h,AHd.cells] at hb
 rw [hN,hni,hnp,hnt]
 obtain ⟨RF,hRF⟩:∃ R,rolesP l ps il=R:=⟨_,rfl⟩
 rw [hRF]
 have HRF:=Lib.hid hRF
 have a0:=hb.cell (i:=0) rfl
 have a1:=hb.cell (i:=1) rfl
 have a2:=hb.cell (i:=2) rfl
 have a3:=hb.cell (i:=3) rfl
 have a4:=hb.cell (i:=4) rfl
 have a5:=hb.cell (i:=5) rfl
 have a6:=hb.cell (i:=6) rfl
 have a7:=hb.cell (i:=7) rfl
 have b7:=(hb.next (Below.new w (.cells (ints (rlF N λ _=>0)).toArray 3))).cell (i:=7) rfl
 have f7:=(hb.next (Below.new w (.cells (ints (rlF N λ _=>0)).toArray 3))).frz 7
 have hmk:=λ w=>mk_ints N (by have:=HD.out.2.2.2.2.2.2.1;omega) w
 have HB:=Lib.hid hb
 clear hb hD hU hnp hbase hN hni hin hnt hRF
 go_enter Try.func26,Try.ntmps26
 go_upto_region 1 with fail
 have hn1:=Below.new w (.cells (ints (rlF N λ _=>0)).toArray 3)
 have hA1:=(HB.out.next hn1).set 7 (.slice (some ⟨w.heap.size,0,none⟩) N N)
 have hne:w.heap.size≠ab:=by have:=HB.out.lt;omega
 have hr1:=(Blk.new (w:=w) 3 (ints (rlF N λ _=>0))).other (a:=⟨ab,7,none⟩) (.slice (some ⟨w.heap.size,0,none⟩) N N) hne
 have hu1:Upd (One ab) (One ab) w ((w.alloc (.cells (ints (rlF N λ _=>0)).toArray 3)).setCell ⟨ab,7,none⟩ (.slice (some ⟨w.heap.size,0,none⟩) N N)):=(Upd.below hn1).trans ⟨rfl,rfl,rfl,by simp,λ j _ hn=>Below.heap_setCell _ _ _ _ (λ e=>hn e),λ j hj => .inl hj⟩
 have hsz1:((w.alloc (.cells (ints (rlF N λ _=>0)).toArray 3)).setCell ⟨ab,7,none⟩ (.slice (some ⟨w.heap.size,0,none⟩) N N)).heap.size=w.heap.size+1:=by simp
 have hab:=HB.out.lt
 obtain ⟨rb,hrb⟩:∃ b,w.heap.size=b:=⟨_,rfl⟩
 rw [hrb] at hA1 hr1 hu1 hne hsz1 ⊢
 generalize (w.alloc (.cells (ints (rlF N λ _=>0)).toArray 3)).setCell ⟨ab,7,none⟩ (.slice (some ⟨rb,0,none⟩) N N)=w1 at *
 have hD1:DD base w1 _ l ps il sts:=HD.out.1.low (hu1.lowF (λ b e=>by have e':b=ab:=e;have:=HD.out.2.2.2.1;omega) (by have:=HD.out.2.2.2.1;omega))
 have hU1:UD (λ b=>b≠rb) w1 _ l ps:=HD.out.2.2.2.2.1.turn λ b hb hlt=>⟨by omega,hu1.block b hlt (λ e=>hb e)⟩
 have H1:=Lib.hid (And.intro hA1 (And.intro (RoS.start hr1) (And.intro hu1 (And.intro hD1 (And.intro hU1 (And.intro (show ab≠rb from λ e=>hne e.symm) (And.intro (show base≤rb by have:=HD.out.2.2.2.1;omega) hrb)))))))
 clear hmk a0 a1 a2 a3 a4 a5 a6 a7 b7 f7 hn1 hA1 hne hr1 hu1 hsz1 hD1 hU1 hrb hab HB
 have a4:=H1.out.1.cell (i:=4) rfl
 go_wp2_with fail
 go_loopw [27] (λ iv wr=>∃ i:Nat,iv = .int .i64 i∧i≤np∧RoS rb w1 [] (ints (rlF N (roleA l ps i))) wr) (λ iv _=>np-(intOf iv).toNat)
 case atStart=>exact ⟨0,rfl,Nat.zero_le _,by rw [show rlF N (roleA l ps 0)=rlF N (λ _=>0) from rlF_congr λ t _=>rfl];exact H1.out.2.1⟩
 case round =>
  obtain ⟨i,rfl,hiN,hR⟩:=hrel
  clear a4
  by_cases hlt:i<np
  ·have hii:(i:Int)<(np:Int):=by omega
   have hi0:(0:Int)≤(i:Int):=by omega
   have hiw:IntKind.i64.wrap ((i:Int)+1)=((i+1:Nat):Int):=by rw [i64_of (by have:=HD.out.2.2.1;omega)];rfl
   obtain ⟨q,hq⟩:∃ q,ps[i]? = some q:=⟨_,List.getElem?_eq_getElem (by rw [HD.out.2.1];exact hlt)⟩
   have hDr:=H1.out.2.2.2.1.low (hR.low H1.out.2.2.2.2.2.2.1)
   obtain ⟨b,o,pb,cb,bc,hpp,hrg,hra,hsf⟩:=hDr.at hq
   dsimp only at hpp
   subst hpp
   have hwf:=HD.out.1.wf q (List.mem_of_getElem? hq)
   have hgd:ps.getD i default=q:=by rw [List.getD,hq];rfl
   obtain ⟨kd,y1,y2,y3,body⟩:=q
   dsimp only at hrg hra hsf hwf
   obtain ⟨bn,hbn⟩:∃ n,body.len=n:=⟨_,rfl⟩
   rw [hbn] at hrg
   have c0:=hrg 0 _ rfl
   have c1:=hrg 1 _ rfl
   have c2:=hrg 2 _ rfl
   have c3:=hrg 3 _ rfl
   have c4:=hrg 4 _ rfl
   rw [Nat.add_zero] at c0
   have hRl:=hR.lay 49 [.int .i64 kd,.int .i64 y1,.int .i64 y2,.int .i64 y3,.slice pb bn cb]
   change RoS _ _ _ _ (wr.alloc (.cells #[.int .i64 kd,.int .i64 y1,.int .i64 y2,.int .i64 y3,.slice pb bn cb] 49)) at hRl
   have hDl:=H1.out.2.2.2.1.low (hRl.low H1.out.2.2.2.2.2.2.1)
   have hUl:=hRl.ud H1.out.2.2.2.2.1
   have hb5:=Below.new wr (.cells #[.int .i64 kd,.int .i64 y1,.int .i64 y2,.int .i64 y3,.slice pb bn cb] 49)
   have hra5:=hra.turn (A':=λ k=>k<base) (w':=wr.alloc (.cells #[.int .i64 kd,.int .i64 y1,.int .i64 y2,.int .i64 y3,.slice pb bn cb] 49)) λ k hk hk2=>⟨hk,hb5.block k hk2⟩
   have hsf5:=hsf.turn EF.stay (A':=λ k=>k<base) (w':=wr.alloc (.cells #[.int .i64 kd,.int .i64 y1,.int .i64 y2,.int .i64 y3,.slice pb bn cb] 49)) λ k hk hk2=>⟨hk,hb5.block k hk2⟩
   have hkd:(ps.getD i default).kind=kd:=by rw [hgd]
   have hbd:(ps.getD i default).body=body:=by rw [hgd]
   have HL:=Lib.hid (And.intro hRl (And.intro hDl (And.intro hUl (And.intro hra5 (And.intro hsf5 (And.intro hwf (And.intro hkd (And.intro hbd (And.intro hbn (And.intro hlt hq))))))))))
   clear hR hDr hrg hra hsf hwf hgd hkd hbd hbn hlt hiN hq hDl hUl hRl hb5 hra5 hsf5
   go_upto_region 4 with fail
   obtain ⟨xp,hxp⟩:∃ b,wr.heap.size=b:=⟨_,rfl⟩
   rw [hxp] at HL ⊢
   generalize wr.alloc (.cells #[.int .i64 kd,.int .i64 y1,.int .i64 y2,.int .i64 y3,.slice pb bn cb] 49)=w5 at *
   clear hxp c0 c1 c2 c3 c4
   have hA5:=HL.out.1.blk0 H1.out.1 H1.out.2.2.2.2.2.1
   have hX5:=HL.out.1.at 0 rfl
   have a0:=hA5.cell (i:=0) rfl
   have a1:=hA5.cell (i:=1) rfl
   have a2:=hA5.cell (i:=2) rfl
   have a3:=hA5.cell (i:=3) rfl
   have a4:=hA5.cell (i:=4) rfl
   have a5:=hA5.cell (i:=5) rfl
   have a6:=hA5.cell (i:=6) rfl
   have xp0:=hX5.cell (i:=0) rfl
   have xp1:=hX5.cell (i:=1) rfl
   have xp2:=hX5.cell (i:=2) rfl
   have xp3:=hX5.cell (i:=3) rfl
   have xp4:=hX5.cell (i:=4) rfl
   clear hA5 hX5
   have HTr:=Lib.hid (Tr.nil w5)
   refine wp_region_webCR (w0:=w5) [.known (.pointer (some ⟨ab,0,none⟩)),.known (.pointer (some ⟨ab,0,none⟩)),.known (.pointer (some ⟨ab,0,none⟩)),.known (.agg #[.slice sp N sc,.slice lp ln lc,.slice ip ni ic,.slice op on oc,.slice (some ⟨b,o,none⟩) np cp,.slice qp qn qc,.slice tp nt tc]),.known (.agg #[.int .i64 kd,.int .i64 y1,.int .i64 y2,.int .i64 y3,.slice pb bn cb]),.rel (λ v W=>∃ L,v = .slice (some ⟨L,0,none⟩) 1 1∧Blk W L 3 (ints [1])) (λ _ => []),.rel (UsV w5.heap.size N (writesP (sizes l) kSet body)) (λ _ => [])] [1,1,1,1,1,1,1] [] 39 1 #[true,true,true,true,true,true,true,false] (by kernel_rfl) (by kernel_rfl) rfl rfl rfl (Nat.le_of_ble_eq_true rfl) ⟨Sp.Mono.known,Sp.Mono.known,Sp.Mono.known,Sp.Mono.known,Sp.Mono.known,mono_sl,mono_us,trivial⟩ HTr.out.drew (λ _ _ _ _ _ h=>h) (A := ?_) ?_ ?_ ?_
   rotate_left
   ·intro u
    simp only [fillC,Sp.val,Nat.reduceBEq,cond_false,Act.put,List.setIfInBounds_toArray,List.set_cons_zero,List.set_cons_succ]
    rfl
   iterate 5 (refine ob_yes (web_op (o:=_) rfl (λ u W hT hd Q K hK => ?_)) ?_;· (have cc0:=aft a0 hT.bel;have cc1:=aft a1 hT.bel;have cc2:=aft a2 hT.bel;have cc3:=aft a3 hT.bel;have cc4:=aft a4 hT.bel;have cc5:=aft a5 hT.bel;have cc6:=aft a6 hT.bel;have cc7:=aft xp0 hT.bel;have cc8:=aft xp1 hT.bel;have cc9:=aft xp2 hT.bel;have cc10:=aft xp3 hT.bel;have cc11:=aft xp4 hT.bel;go_simp;exact hK.out _ _ (Below.refl _ _) rfl (λ p hp=>by cases hp) List.nodup_nil))
   refine ob_yes (web_op (o:=_) rfl (λ u W hT hd Q K hK => ?_)) ?_
   ·(try simp only [Act.put,List.setIfInBounds_toArray,List.set_cons_zero,List.set_cons_succ] at hK)
    have cc0:=aft a0 hT.bel
    have cc1:=aft a1 hT.bel
    have cc2:=aft a2 hT.bel
    have cc3:=aft a3 hT.bel
    have cc4:=aft a4 hT.bel
    have cc5:=aft a5 hT.bel
    have cc6:=aft a6 hT.bel
    have cc7:=aft xp0 hT.bel
    have cc8:=aft xp1 hT.bel
    have cc9:=aft xp2 hT.bel
    have cc10:=aft xp3 hT.bel
    have cc11:=aft xp4 hT.bel
    go_simp
    exact hK.out _ _ (Below.new _ _) ⟨_,rfl,Blk.new _ _⟩ (λ p hp=>by cases hp) List.nodup_nil
   refine ob_yes (web_op (o:=_) rfl (λ u W hT hd Q K hK => ?_)) ?_
   ·have d5:=hd 5 (by kernel_rfl)
    generalize u 5=x5 at *
    obtain ⟨L5,rfl,hB5⟩:=d5
    (try simp only [Act.put,List.setIfInBounds_toArray,List.set_cons_zero,List.set_cons_succ] at hK)
    have cc0:=aft a0 hT.bel
    have cc1:=aft a1 hT.bel
    have cc2:=aft a2 hT.bel
    have cc3:=aft a3 hT.bel
    have cc4:=aft a4 hT.bel
    have cc5:=aft a5 hT.bel
    have cc6:=aft a6 hT.bel
    have cc7:=aft xp0 hT.bel
    have cc8:=aft xp1 hT.bel
    have cc9:=aft xp2 hT.bel
    have cc10:=aft xp3 hT.bel
    have cc11:=aft xp4 hT.bel
    go_simp
    have hs1:=(HL.out.2.1.low (hT.bel.mono (by have:=H1.out.2.2.2.2.2.2.1;have:=HL.out.1.up.size;have:=HL.out.1.lt;omega)))
    have hc6:=pwritten_any (w:=W) (v1 := .slice lp ln lc) (v2 := .slice ip ni ic) (v3 := .slice op on oc) (v4 := .slice (some ⟨b,o,none⟩) np cp) (v5 := .slice qp qn qc) (v6 := .slice tp nt tc) (kv := .int .i64 kd) (q1 := .int .i64 y1) (q2 := .int .i64 y2) (q3 := .int .i64 y3) (il := [1]) hB5.roa (by decide) kSet_ok (B:=base) (by have:=hT.bel.size;have:=H1.out.2.2.2.2.2.2.1;have:=HL.out.1.up.size;have:=HL.out.1.lt;omega) hs1.sg HL.out.2.2.2.2.2.1.1 HL.out.2.2.2.2.2.1.2 (HL.out.2.2.2.1.turn λ k hk hk2=>⟨hk,hT.bel.block k hk2⟩) (HL.out.2.2.2.2.1.turn EF.stay λ k hk hk2=>⟨hk,hT.bel.block k hk2⟩)
    rw [HD.out.2.2.2.2.2.1,HL.out.2.2.2.2.2.2.2.2.1] at hc6
    refine hc6.mono ?_;rintro e w6 ⟨g,V,rfl,hu6,hb6⟩
    exact hK.out _ _ hb6 ⟨g,V,_,rfl,hT.bel.size,hu6⟩ (λ p hp=>by cases hp) List.nodup_nil
   exact ob_nil
   intro u wx hT hok
   obtain ⟨h0,h1,h2,h3,h4,h5,h6,_⟩:=hok
   clear h0 h1 h2 h3 h4 h5
   simp only [ownsC,Sp.own,Nat.reduceBEq,cond_false,List.append_nil] at hT
   have d6:=h6 (by kernel_rfl)
   clear h6
   generalize u 6=x6 at *
   obtain ⟨g6,V6,b6,rfl,hb6,hU6⟩:=d6
   (try dsimp only [List.nil_append,List.cons_append] at hT)
   have HTE:=Lib.hid hT
   clear hT
   clear HTr a0 a1 a2 a3 a4 a5 a6 xp0 xp1 xp2 xp3 xp4
   refine wpAny_of_held (S:=λ _=>True) _ _ _ _ ?_
   refine wpAnyH_ready (rs := [7]) (by kernel_rfl) (by simp) ?_
   refine held_cons rfl (λ K hK => ?_) AllReadyH.nil
   go_simp
   refine hK.out _ _ trivial (λ _ => ?_)
   clear hK K
   (try simp only [List.setIfInBounds_toArray,List.set_cons_zero,List.set_cons_succ])
   refine wpAnyH_done (by kernel_rfl) ?_ _
   have hR6:=HL.out.1.below HTE.out.bel
   have hus6:US (λ b=>b≠rb) wx (usV g6 N) (writesP (sizes l) kSet body):=by
    have hul:(writesP (sizes l) kSet body).length=N:=by rw [writesP_len];simp [sizes];exact HD.out.2.2.2.2.2.1
    have:=hU6.us
    rw [hul] at this
    exact this.turn λ b hb hlt=>⟨by have:=(hU6.flt b hb).1;have:=HL.out.1.lt;have:=HL.out.1.up.size;omega,rfl⟩
   obtain ⟨hst6,hbk6⟩:=hR6.next
   have HS6:=Lib.hid (And.intro hst6 (And.intro hus6 (And.intro (hR6.ud H1.out.2.2.2.2.1) (And.intro (H1.out.2.2.2.1.low (hR6.low H1.out.2.2.2.2.2.2.1)) (And.intro (hR6.blk0 H1.out.1 H1.out.2.2.2.2.2.1) (And.intro (hR6.at 0 rfl) (hR6.ne List.mem_cons_self)))))))
   have HBk:Hid (∀ {ls':Bx} {cs':List Value} {W':World},RoS rb wx ls' cs' W'→RoS rb w1 _ cs' W'):=Lib.hid hbk6
   clear hR6 hus6 hst6 hbk6 hU6 hb6 HTE
   obtain ⟨bw,ow,pw,mw,hwp,hwn,hcw,husw⟩:=HS6.out.2.2.1.atW HL.out.2.2.2.2.2.2.2.2.2.2
   dsimp only at hwp
   subst hwp
   rw [HD.out.2.2.2.2.2.1] at hcw husw
   have HUw:=Lib.hid husw
   clear husw hwn
   have a9:=HS6.out.2.2.2.2.1.cell (i:=9) rfl
   (try dsimp only at a9)
   go_wp2_with fail
   go_loopw [47] (λ sv wr=>∃ s:Nat,sv = .int .i64 s∧s≤N∧RoS rb wx [] (ints (rlF N (λ t=>if t<s then roleA l ps (i+1) t else roleA l ps i t))) wr) (λ sv _=>N-(intOf sv).toNat)
   case atStart=>exact ⟨0,rfl,Nat.zero_le _,by rw [show rlF N (λ t=>if t<0 then roleA l ps (i+1) t else roleA l ps i t)=rlF N (roleA l ps i) from rlF_congr λ t _=>if_neg (Nat.not_lt_zero _)];exact HS6.out.1⟩
   case round =>
    obtain ⟨s,rfl,hsn,hRs⟩:=hrel
    clear a9 hcw
    by_cases hlt:s<N
    ·have hss:(s:Int)<(N:Int):=by omega
     have hs0:(0:Int)≤(s:Int):=by omega
     have hsw:IntKind.i64.wrap ((s:Int)+1)=((s+1:Nat):Int):=by rw [i64_of (by have:=HD.out.2.2.2.2.2.2.1;omega)];rfl
     have hbd:=HL.out.2.2.2.2.2.2.2.1
     have hsl:s<l.length:=by rw [HD.out.2.2.2.2.2.1];exact hlt
     obtain ⟨bg,og,pr,cr,hpw,hgn,hcr,hrow,hnil⟩:=HUw.out.get (by have:=wrB_at l ps i hsl;rw [hbd] at this;exact this)
     subst hpw
     obtain ⟨bg2,og2,pr2,cr2,hpw2,hgn2,hcr2,hrow2,hnil2⟩:=HS6.out.2.1.get (by have:=nowB_at l ps i hsl;rw [hbd] at this;exact this)
     cases hpw2
     have hcw1:=hRs.cell0 hcr hgn
     have hcn1:=hRs.cell0 hcr2 hgn2
     rw [Nat.zero_add] at hcn1
     obtain ⟨rn,hrn⟩:∃ n,(wrB l ps i s).length=n:=⟨_,rfl⟩
     obtain ⟨rn2,hrn2⟩:∃ n,(nowB l ps i s).length=n:=⟨_,rfl⟩
     rw [hrn] at hcw1
     rw [hrn2] at hcn1
     obtain ⟨z,hz⟩:∃ z,(wrB l ps i s).isEmpty=z:=⟨_,rfl⟩
     rw [hz] at hnil
     obtain ⟨z2,hz2⟩:∃ z,(nowB l ps i s).isEmpty=z:=⟨_,rfl⟩
     rw [hz2] at hnil2
     have hrA:roleA l ps (i+1) s=roleV kd z z2 (roleA l ps i s):=by rw [roleA,HL.out.2.2.2.2.2.2.1,hz,hz2]
     obtain ⟨cb3,hcb⟩:∃ c,decide (kd=3)=c:=⟨_,rfl⟩
     have HCl:=Lib.hid (λ w=>clocked_b (w:=w) kd y1 y2 y3 pb bn cb hcb)
     have HRs:=Lib.hid (And.intro hRs (And.intro hrA (And.intro hcb hlt)))
     have hX:=hRs.blk0 HS6.out.2.2.2.2.2.1 HS6.out.2.2.2.2.2.2
     have hA:=hRs.blk0 HS6.out.2.2.2.2.1 H1.out.2.2.2.2.2.1
     have xp0:=hX.cell (i:=0) rfl
     have xp1:=hX.cell (i:=1) rfl
     have xp2:=hX.cell (i:=2) rfl
     have xp3:=hX.cell (i:=3) rfl
     have xp4:=hX.cell (i:=4) rfl
     have a7:=hA.cell (i:=7) rfl
     (try dsimp only at a7)
     have rf:=hRs.row.frz s
     have rc:=hRs.row.cell (rlF_at _ hlt)
     clear hX hA hgn hgn2 hcr hcr2 hrow hrow2 hz hz2 hrn hrn2 hrA hcb hRs hlt hsn hbd hsl
     have qE:=eq_nilB
     have qN:=ne_nilB
     cases z
     case true =>
      clear rf rc a7
      go_wp2_with fail
      go_roundw
      case measure=>simp [intOf];have:=HRs.out.2.2.2;omega
      case rel =>
       refine ⟨s+1,by go_num,HRs.out.2.2.2,?_⟩
       have e1:rlF N (λ t=>if t<s+1 then roleA l ps (i+1) t else roleA l ps i t)=rlF N (λ t=>if t<s then roleA l ps (i+1) t else roleA l ps i t):=rlF_congr λ t _=>by
        by_cases e:t=s
        ·subst e;rw [if_pos (by omega),if_neg (by omega),HRs.out.2.1];rfl
        ·by_cases e2:t<s
         ·rw [if_pos e2,if_pos (by omega)]
         ·rw [if_neg e2,if_neg (by omega)]
       rw [e1]
       exact HRs.out.1
     case false =>
      go_upto_region 10 with fail
      cases cb3
      case true =>
       go_wp2_with fail
       refine (HCl.out _).mono ?_;rintro en w8 ⟨rfl,hb8⟩
       have H8:=Lib.hid (HRs.out.1.below hb8)
       have a7:=(H8.out.blk0 HS6.out.2.2.2.2.1 H1.out.2.2.2.2.2.1).cell (i:=7) rfl
       (try dsimp only at a7)
       have rf:=H8.out.row.frz s
       have rc:=H8.out.row.cell (rlF_at _ HRs.out.2.2.2)
       have hcn8:w8.cell? _=some _:=(hb8.cell (World.block_lt_of_cell? _ _ hcn1)).trans hcn1
       clear hb8 hcw1 hcn1 xp0 xp1 xp2 xp3 xp4
       cases z2
       case true =>
        go_wp2_with fail
        go_roundw
        case measure=>simp [intOf];have:=HRs.out.2.2.2;omega
        case rel =>
         refine ⟨s+1,by go_num,HRs.out.2.2.2,?_⟩
         have e1:rlF N (λ t=>if t<s+1 then roleA l ps (i+1) t else roleA l ps i t)=rlF N (λ t=>if t=s then 3 else ((λ t=>if t<s then roleA l ps (i+1) t else roleA l ps i t)) t):=rlF_congr λ t _=>by
          by_cases e:t=s
          ·subst e;rw [if_pos (by omega),if_pos rfl,HRs.out.2.1];unfold roleV;simp [of_decide_eq_true,HRs.out.2.2.1] <;> (have:=HRs.out.2.2.1;simp at this;simp [this])
          ·rw [if_neg e];dsimp only;by_cases e2:t<s
           ·rw [if_pos e2,if_pos (by omega)]
           ·rw [if_neg e2,if_neg (by omega)]
         rw [e1,←rlF_set]
         exact H8.out.set s _
       case false =>
        go_wp2_with fail
        go_roundw
        case measure=>simp [intOf];have:=HRs.out.2.2.2;omega
        case rel =>
         refine ⟨s+1,by go_num,HRs.out.2.2.2,?_⟩
         have e1:rlF N (λ t=>if t<s+1 then roleA l ps (i+1) t else roleA l ps i t)=rlF N (λ t=>if t=s then 4 else ((λ t=>if t<s then roleA l ps (i+1) t else roleA l ps i t)) t):=rlF_congr λ t _=>by
          by_cases e:t=s
          ·subst e;rw [if_pos (by omega),if_pos rfl,HRs.out.2.1];unfold roleV;simp [of_decide_eq_true,HRs.out.2.2.1] <;> (have:=HRs.out.2.2.1;simp at this;simp [this])
          ·rw [if_neg e];dsimp only;by_cases e2:t<s
           ·rw [if_pos e2,if_pos (by omega)]
           ·rw [if_neg e2,if_neg (by omega)]
         rw [e1,←rlF_set]
         exact H8.out.set s _
      case false =>
       go_wp2_with fail
       refine (HCl.out _).mono ?_;rintro en w8 ⟨rfl,hb8⟩
       have H8:=Lib.hid (HRs.out.1.below hb8)
       have a7:=(H8.out.blk0 HS6.out.2.2.2.2.1 H1.out.2.2.2.2.2.1).cell (i:=7) rfl
       (try dsimp only at a7)
       have rf:=H8.out.row.frz s
       have rc:=H8.out.row.cell (rlF_at _ HRs.out.2.2.2)
       clear hb8 hcw1 hcn1 xp0 xp1 xp2 xp3 xp4
       go_wp2_with fail
       go_roundw
       case measure=>simp [intOf];have:=HRs.out.2.2.2;omega
       case rel =>
        refine ⟨s+1,by go_num,HRs.out.2.2.2,?_⟩
        have e1:rlF N (λ t=>if t<s+1 then roleA l ps (i+1) t else roleA l ps i t)=rlF N (λ t=>if t=s then 2 else ((λ t=>if t<s then roleA l ps (i+1) t else roleA l ps i t)) t):=rlF_congr λ t _=>by
         by_cases e:t=s
         ·subst e;rw [if_pos (by omega),if_pos rfl,HRs.out.2.1];unfold roleV;simp [of_decide_eq_true,HRs.out.2.2.1] <;> (have:=HRs.out.2.2.1;simp at this;simp [this])
         ·rw [if_neg e];dsimp only;by_cases e2:t<s
          ·rw [if_pos e2,if_pos (by omega)]
          ·rw [if_neg e2,if_neg (by omega)]
        rw [e1,←rlF_set]
        exact H8.out.set s _
    ·obtain rfl:N=s:=by omega
     have hss:¬(N:Int)<(N:Int):=by omega
     have H9:=Lib.hid ((HBk.out hRs).drop 1)
     clear hRs hlt hsn
     go_wp2_with fail
     go_roundw
     case measure=>simp [intOf];have:=HL.out.2.2.2.2.2.2.2.2.2.1;omega
     case rel =>
      refine ⟨i+1,by go_num,HL.out.2.2.2.2.2.2.2.2.2.1,?_⟩
      rw [show rlF N (roleA l ps (i+1))=rlF N (λ t=>if t<N then roleA l ps (i+1) t else roleA l ps i t) from rlF_congr λ t ht=>(if_pos ht).symm]
      exact H9.out
  ·obtain rfl:np=i:=by omega
   have hii:¬(np:Int)<(np:Int):=by omega
   have HR:=Lib.hid hR
   clear hlt hiN hR
   have a0:=(HR.out.blk0 H1.out.1 H1.out.2.2.2.2.2.1).cell (i:=0) rfl
   (try dsimp only at a0)
   go_upto_region 16 with fail
   go_wp2_with fail
   go_loopw [91] (λ sv wr=>∃ s:Nat,sv = .int .i64 s∧s≤N∧RoS rb w1 [] (ints (rlF N (λ t=>if t<s then roleW l ps t else roleA l ps ps.length t))) wr) (λ sv _=>N-(intOf sv).toNat)
   case atStart=>exact ⟨0,rfl,Nat.zero_le _,by rw [show rlF N (λ t=>if t<0 then roleW l ps t else roleA l ps ps.length t)=rlF N (roleA l ps np) from rlF_congr λ t _=>by rw [if_neg (Nat.not_lt_zero _),HD.out.2.1]];exact HR.out⟩
   case round =>
    obtain ⟨s,rfl,hsn,hRs⟩:=hrel
    clear a0
    by_cases hlt:s<N
    ·have hss:(s:Int)<(N:Int):=by omega
     have hs0:(0:Int)≤(s:Int):=by omega
     have hsw:IntKind.i64.wrap ((s:Int)+1)=((s+1:Nat):Int):=by rw [i64_of (by have:=HD.out.2.2.2.2.2.2.1;omega)];rfl
     obtain ⟨y,hy⟩:∃ y,l[s]? = some y:=⟨_,List.getElem?_eq_getElem (by rw [HD.out.2.2.2.2.2.1];exact hlt)⟩
     have hyd:l.getD s default=y:=by rw [List.getD,hy];rfl
     obtain ⟨sb,so,hse,c0,c1,c2,c3⟩:=(H1.out.2.2.2.1.low (hRs.low H1.out.2.2.2.2.2.2.1)).sig hy
     dsimp only at hse
     subst hse
     have hrW:roleW l ps s=if 0<y.words then 5 else roleA l ps ps.length s:=by unfold roleW;rw [hyd]
     obtain ⟨yn,yw,ysg,yq⟩:=y
     dsimp only at c0 c1 c2 c3 hrW
     have hRl:=hRs.lay 54 [.string yn,.int .i64 yw,.bool ysg,.int .i64 yq]
     change RoS _ _ _ _ (wr.alloc (.cells #[.string yn,.int .i64 yw,.bool ysg,.int .i64 yq] 54)) at hRl
     have HL:=Lib.hid (And.intro hRl (And.intro hrW hlt))
     clear hRs hrW hyd hy hlt hsn hRl
     go_upto_region 19 with fail
     obtain ⟨xp,hxp⟩:∃ b,wr.heap.size=b:=⟨_,rfl⟩
     rw [hxp] at HL ⊢
     generalize wr.alloc (.cells #[.string yn,.int .i64 yw,.bool ysg,.int .i64 yq] 54)=w5 at *
     clear hxp c0 c1 c2 c3
     have x3:=(HL.out.1.at 0 rfl).cell (i:=3) rfl
     have a7:=(HL.out.1.blk0 H1.out.1 H1.out.2.2.2.2.2.1).cell (i:=7) rfl
     (try dsimp only at a7)
     have rf:=HL.out.1.row.frz s
     have rc:=HL.out.1.row.cell (rlF_at _ HL.out.2.2)
     by_cases hyq:0<yq
     ·have hyi:(0:Int)<(yq:Int):=by omega
      have HY:=Lib.hid hyq
      clear hyq
      go_wp2_with fail
      go_roundw
      case measure=>simp [intOf];have:=HL.out.2.2;omega
      case rel =>
       refine ⟨s+1,by go_num,HL.out.2.2,?_⟩
       have e1:rlF N (λ t=>if t<s+1 then roleW l ps t else roleA l ps ps.length t)=rlF N (λ t=>if t=s then 5 else ((λ t=>if t<s then roleW l ps t else roleA l ps ps.length t)) t):=rlF_congr λ t _=>by
        by_cases e:t=s
        ·subst e;rw [if_pos (by omega),if_pos rfl,HL.out.2.1,if_pos HY.out]
        ·rw [if_neg e];dsimp only;by_cases e2:t<s
         ·rw [if_pos e2,if_pos (by omega)]
         ·rw [if_neg e2,if_neg (by omega)]
       rw [e1,←rlF_set]
       exact (HL.out.1.set s _).drop 1
     ·have hyi:¬(0:Int)<(yq:Int):=by omega
      have HY:=Lib.hid hyq
      clear hyq
      go_wp2_with fail
      go_roundw
      case measure=>simp [intOf];have:=HL.out.2.2;omega
      case rel =>
       refine ⟨s+1,by go_num,HL.out.2.2,?_⟩
       have e1:rlF N (λ t=>if t<s+1 then roleW l ps t else roleA l ps ps.length t)=rlF N (λ t=>if t<s then roleW l ps t else roleA l ps ps.length t):=rlF_congr λ t _=>by
        by_cases e:t=s
        ·subst e;rw [if_pos (by omega),if_neg (by omega),HL.out.2.1,if_neg HY.out]
        ·by_cases e2:t<s
         ·rw [if_pos e2,if_pos (by omega)]
         ·rw [if_neg e2,if_neg (by omega)]
       rw [e1]
       exact HL.out.1.drop 1
    ·obtain rfl:N=s:=by omega
     have hss:¬(N:Int)<(N:Int):=by omega
     have hRs2:=hRs
     rw [show rlF N (λ t=>if t<N then roleW l ps t else roleA l ps ps.length t)=rlF N (roleW l ps) from rlF_congr λ t ht=>if_pos ht] at hRs2
     have HRs:=Lib.hid hRs2
     clear hlt hsn hRs hRs2
     have a2:=(HRs.out.blk0 H1.out.1 H1.out.2.2.2.2.2.1).cell (i:=2) rfl
     (try dsimp only at a2)
     go_upto_region 22 with fail
     go_wp2_with fail
     go_loopw [112] (λ jv wr=>∃ j:Nat,jv = .int .i64 j∧j≤ni∧RoS rb w1 [] (ints (rlF N (λ t:Nat=>if (il.take j).contains (t:Int) then 1 else roleW l ps t))) wr) (λ jv _=>ni-(intOf jv).toNat)
     case atStart=>exact ⟨0,rfl,Nat.zero_le _,by rw [show rlF N (λ t=>if (il.take 0).contains (t:Int) then 1 else roleW l ps t)=rlF N (roleW l ps) from rlF_congr λ t _=>by simp];exact HRs.out⟩
     case round =>
      obtain ⟨j,rfl,hjn,hRj⟩:=hrel
      clear a2
      by_cases hlt:j<ni
      ·have hjj:(j:Int)<(ni:Int):=by omega
       have hj0:(0:Int)≤(j:Int):=by omega
       have hjw:IntKind.i64.wrap ((j:Int)+1)=((j+1:Nat):Int):=by rw [i64_of (by have:=HD.out.1.nl;have:=HD.out.2.2.2.2.2.2.2.1;omega)];rfl
       obtain ⟨v,hv⟩:∃ v,il[j]? = some v:=⟨_,List.getElem?_eq_getElem (by rw [HD.out.2.2.2.2.2.2.2.1];exact hlt)⟩
       have hvN:=HD.out.2.2.2.2.2.2.2.2 v (List.mem_of_getElem? hv)
       obtain ⟨s,rfl⟩:∃ s:Nat,v=(s:Int):=⟨v.toNat,by omega⟩
       have hsN:s<N:=by have:=HD.out.2.2.2.2.2.1;omega
       have hinp:=(H1.out.2.2.2.1.low (hRj.low H1.out.2.2.2.2.2.2.1)).ip.ro
       dsimp only at hinp
       rw [HD.out.2.2.2.2.2.2.2.1] at hinp
       have hvi:(ints il)[j]? = some (.int .i64 (s:Int)):=by unfold ints;rw [List.getElem?_map,hv];rfl
       obtain ⟨bi,oi,rfl⟩:=hinp.sl hvi
       have ci:=hinp.cell hvi
       have hs1:(s:Int)<(N:Int):=by omega
       have hs0:(0:Int)≤(s:Int):=by omega
       have a7:=(hRj.blk0 H1.out.1 H1.out.2.2.2.2.2.1).cell (i:=7) rfl
       (try dsimp only at a7)
       have rf:=hRj.row.frz s
       have rc:=hRj.row.cell (rlF_at _ hsN)
       have HJ:=Lib.hid (And.intro (hRj.set s (.int .i64 1)) (And.intro hv (And.intro hlt hsN)))
       clear hRj hv hlt hjn hsN hvN hinp hvi
       go_wp2_with fail
       go_roundw
       case measure=>simp [intOf];have:=HJ.out.2.2.1;omega
       case rel =>
        refine ⟨j+1,by go_num,HJ.out.2.2.1,?_⟩
        have e1:rlF N (λ t:Nat=>if (il.take (j+1)).contains (t:Int) then 1 else roleW l ps t)=rlF N (λ t:Nat=>if t=s then 1 else ((λ t:Nat=>if (il.take j).contains (t:Int) then 1 else roleW l ps t)) t):=rlF_congr λ t _=>by
         rw [List.take_add_one,HJ.out.2.1]
         by_cases e:t=s
         ·subst e;simp
         ·have e2:¬((t:Int)=(s:Int)):=by omega
          rw [if_neg e];simp [e2]
        rw [e1,←rlF_set]
        exact HJ.out.1
      ·obtain rfl:ni=j:=by omega
       have hjj:¬(ni:Int)<(ni:Int):=by omega
       have HRj:=Lib.hid hRj
       clear hlt hjn hRj
       go_wp2_with fail
       go_end0
       refine ⟨rfl,rb,Nat.le_of_eq H1.out.2.2.2.2.2.2.2,HRj.out.blk0 H1.out.1 H1.out.2.2.2.2.2.1,?_,?_⟩
       ·have hfin:RF=rlF N (λ t=>if (il.take ni).contains (t:Int) then 1 else roleW l ps t):=by
         rw [←HRF.out]
         unfold rolesP
         rw [HD.out.2.2.2.2.2.1]
         refine rlF_congr λ t _ => ?_
         rw [←HD.out.2.2.2.2.2.2.2.1,List.take_length]
         rfl
        rw [hfin]
        exact HRj.out.row
       ·have hu:=H1.out.2.2.1
        have hrbw:=H1.out.2.2.2.2.2.2.2
        exact ⟨HRj.out.up.os.trans hu.os,HRj.out.up.tape.trans hu.tape,HRj.out.up.output.trans hu.output,Nat.le_trans hu.size HRj.out.up.size,λ k hk hn=>(HRj.out.up.block k (Nat.lt_of_lt_of_le hk hu.size) (λ e=>by have e2:k=rb:=e;omega)).trans (hu.block k hk hn),λ k hk => .inl hk⟩
end Go.Proofs.Ytlklleaocbnbcaa
