import Derived.Test.YtlklleaocbnbcaaZ10
namespace Go.Proofs.Ytlklleaocbnbcaa
set_option linter.unusedVariables false
open Go.RowKit
theorem MX.end {bm n:Nat} {w W W':World} {bs:List (Nat × Nat × List Value)} {ts:List (TL × List Value)} (h:MX bm n w W bs ts) (hu:Upd (One w.heap.size) (One w.heap.size) W W'):Mk bm W'∧Upd (One bm) (One bm) w W':=by
 have:=h.fin (H:=⟨1,0,0,0⟩) (a := .nil) (cs:=tcells ⟨1,0,0,0⟩ 0 false (.slice none 0 0) (.slice none 0 0)) (tr_mk (vl := []) ROA.nil (by simp) ROA.nil rfl) ⟨λ h=>(by cases h),λ h=>(by simp at h),by simp,by simp,by simp,by simp,by simp [TL.len],trivial,trivial⟩ hu
 obtain ⟨_,_,_,_,_,_,hm,hu⟩:=this
 exact ⟨hm,hu⟩
theorem upd4 (W:World) (b:Nat) (v0 v1 v2 v3:Value):Upd (One b) (One b) W ((((W.setCell ⟨b,0,none⟩ v0).setCell ⟨b,1,none⟩ v1).setCell ⟨b,2,none⟩ v2).setCell ⟨b,3,none⟩ v3) :=
 (((upd_cell1 _).trans (upd_cell1 _)).trans (upd_cell1 _)).trans (upd_cell1 _)
def z4:List Value := [.int .i64 0,.int .i64 0,.int .i64 0,.slice none 0 0]
theorem blk4 {W:World} {b t:Nat} (h:Blk W b t z4) (v0 v1 v2 v3:Value):Blk ((((W.setCell ⟨b,0,none⟩ v0).setCell ⟨b,1,none⟩ v1).setCell ⟨b,2,none⟩ v2).setCell ⟨b,3,none⟩ v3) b t [v0,v1,v2,v3] :=
 (((h.set 0 v0).set 1 v1).set 2 v2).set 3 v3
def TgtR (bm n:Nat) (s:Nat) (words:Nat) (w:World) (e:Ending) (w':World):Prop :=
 ∃ (lo wd:Nat) (it:TL) (p:Option Addr) (c:Nat) (ic:List Value),e = .returned (.agg #[.int .i64 (s:Nat),.int .i64 (lo:Nat),.int .i64 (wd:Nat),.slice p it.len c])∧ROA (From w.heap.size) w' (.slice p it.len c) 8 it.len ic∧TR (From w.heap.size) w' it ic∧it.wf n ∧
  lo≤8∧wd≤16∧it.len≤1∧(it.len=0→1≤wd∧wd≤8∧words=0)∧Mk bm w'∧Upd (One bm) (One bm) w w'
theorem tr_app1 {A:Nat→Prop} {w:World} {h:TH} {a:TL} {cs:List Value} (ht:TR A w (.cons h a .nil) cs) {g:Nat} (hg:Blk w g 76 cs) (hA:A g):ROA A w (.slice (some ⟨g,0,none⟩) 1 1) 8 1 cs:=ROA.ofBlkS hg (by have:=ht.len;simpa [TL.len] using this) hA
set_option maxRecDepth 100000 in
set_option maxHeartbeats 8000000 in
theorem target_any {bm n:Nat} {w:World} {p:Option Addr} {c:Nat} {l:List Sg} (hS:Sgs l) (hn:l.length≤n) (hn8:n≤8) (s:Nat) {x:Sg} (hx:l[s]? = some x) (dyn:Bool) (hk:Mk bm w) (hs:ROA (λ b=>b≠bm) w (.slice p l.length c) 4 l.length (sigCells l)) :
  Calls Try.prog 16 #[.pointer (some ⟨bm,0,none⟩),.slice p l.length c,.int .i64 s,.bool dyn] w (TgtR bm n s x.words w):=by
 have hsl:=(List.getElem?_eq_some_iff.1 hx).1
 have hxw:=hS.w _ (List.mem_of_getElem? hx)
 obtain ⟨N,hN⟩:∃ N,l.length=N:=⟨_,rfl⟩
 have hlc:=hs.cap
 obtain ⟨b,o,rfl⟩:=hs.sl (sigCells_at (List.getElem?_eq_getElem (show 0<l.length from hS.pos))).1
 have HM_w0:Hid (MX bm n w (w.alloc (.cells #[.int .i64 0,.int .i64 0,.int .i64 0,.slice none 0 0] 79)) [(w.heap.size,79,z4)] []):=Lib.hid (MX.start hk _ _)
 have HS1:Hid (∀ W,Upd (One bm) (One bm) w W→ROA (λ b=>b≠bm) W (.slice (some ⟨b,o,none⟩) 1 c) 4 (l.take 1).length (sigCells (l.take 1))):=Lib.hid λ W hu=>(sig_take hs 1 hS.pos).upd hu λ b hb=>hb
 have HOne:Hid (MakeC bm n (.slice (some ⟨b,o,none⟩) 1 c) (l.take 1) 1):=Lib.hid (mexpr_one hS.one (by rw [List.length_take];have:=hS.pos;omega) (by have:=hS.pos;omega) hn8)
 have HOne2:Hid (∀ W,Mk bm W→ROA (λ b=>b≠bm) W (.slice (some ⟨b,o,none⟩) 1 c) 4 (l.take 1).length (sigCells (l.take 1))→Calls Try.prog 12 #[.pointer (some ⟨bm,0,none⟩),.slice (some ⟨b,o,none⟩) 1 c,.int .i64 2,.int .i64 1] W (MakeR bm n W)):=Lib.hid λ W hm hs=>HOne.out W 2 (by omega) (by omega) hm hs
 have hs0:=(hs.upd (Upd.below (Below.new w (.cells #[.int .i64 0,.int .i64 0,.int .i64 0,.slice none 0 0] 79)):Upd (One bm) (One bm) _ _) λ b hb=>hb).ro
 have s0:=hs0.cell (sigCells_at hx).1
 have s1:=hs0.cell (sigCells_at hx).2.1
 have s2:=hs0.cell (sigCells_at hx).2.2.1
 have s3:=hs0.cell (sigCells_at hx).2.2.2
 rw [←Nat.add_assoc] at s1 s2 s3
 obtain ⟨xn,xw,xg,xq⟩:=x
 dsimp only at s0 s1 s2 s3 hxw ⊢
 rw [hN]
 have hc1:(1:Int)≤(c:Int):=by have:=hS.pos;omega
 have hsN:(s:Int)<(N:Int):=by omega
 have hs00:(0:Int)≤(s:Int):=by omega
 have H:=Lib.hid (And.intro hS (And.intro hn (And.intro hn8 (And.intro hxw (And.intro hsl hN)))))
 clear hS hn hn8 hxw hsl hN hs hk hlc hs0 hx HOne
 go_enter Try.func16,Try.ntmps16
 go_upto_region 1 with fail
 generalize w.alloc (.cells #[.int .i64 0,.int .i64 0,.int .i64 0,.slice none 0 0] 79)=w0 at *
 go_upto_region 2 with fail
 clear s0 s1 s2 s3
 have HM_w1:=Lib.hid (HM_w0.out.lay 69 [.string xn,.int .i64 xw,.bool xg,.int .i64 xq])
 have hge:=Lib.hid HM_w0.out.big
 generalize w0.alloc (.cells #[.string xn,.int .i64 xw,.bool xg,.int .i64 xq] 69)=w1 at *
 clear HM_w0
 go_wp2_with fail
 refine (next_any HM_w1.out.maker 6 (by omega) (by omega)).mono ?_;rintro e w2 ⟨k,hk6,rfl,hk2,hu2⟩
 have HM_w2:=Lib.hid (HM_w1.out.call hk2 hu2)
 clear hk2 hu2 HM_w1
 have x1:=(HM_w2.out.at 0 rfl).cell (i:=1) rfl
 have x3:=(HM_w2.out.at 0 rfl).cell (i:=3) rfl
 have r0:=(HM_w2.out.at 1 rfl).cell (i:=0) rfl
 have r1:=(HM_w2.out.at 1 rfl).cell (i:=1) rfl
 have r2:=(HM_w2.out.at 1 rfl).cell (i:=2) rfl
 have r3:=(HM_w2.out.at 1 rfl).cell (i:=3) rfl
 have f0:=(HM_w2.out.at 1 rfl).frz 0
 have f1:=(HM_w2.out.at 1 rfl).frz 1
 have f2:=(HM_w2.out.at 1 rfl).frz 2
 have f3:=(HM_w2.out.at 1 rfl).frz 3
 by_cases hq:0<xq
 ·have hqi:(0:Int)<(xq:Int):=by omega
  go_wp2_with fail
  refine (HOne2.out _ HM_w2.out.maker (HS1.out _ HM_w2.out.up)).mono ?_;intro e w3 hR;obtain ⟨⟨tk,tw,ts,tl⟩,ta,tx,tg,tvp,tvn,tvc,tap,tan,tac,rfl,ht,hw,hk3,hu3⟩:=hR.open;clear hR
  have HM_w3:=Lib.hid (HM_w2.out.tree hu3 hk3 ht hw);clear hk3 hu3 ht hw HM_w2 r0 r1 r2 r3 f0 f1 f2 f3 x1 x3
  have HM4:Hid (MX bm n w (w3.alloc (.cells #[.int .i64 tk,.int .i64 tx,.int .i64 tw,.int .i64 ts,.int .i64 tl,.bool tg,.slice tvp tvn tvc,.slice tap tan tac] 76)) _ _):=Lib.hid (HM_w3.out.lay 76 [.int .i64 tk,.int .i64 tx,.int .i64 tw,.int .i64 ts,.int .i64 tl,.bool tg,.slice tvp tvn tvc,.slice tap tan tac])
  have hgs:=Lib.hid HM_w3.out.big
  have r0:=(HM4.out.at 2 rfl).cell (i:=0) rfl
  have r1:=(HM4.out.at 2 rfl).cell (i:=1) rfl
  have r2:=(HM4.out.at 2 rfl).cell (i:=2) rfl
  have r3:=(HM4.out.at 2 rfl).cell (i:=3) rfl
  have f0:=(HM4.out.at 2 rfl).frz 0
  have f1:=(HM4.out.at 2 rfl).frz 1
  have f2:=(HM4.out.at 2 rfl).frz 2
  have f3:=(HM4.out.at 2 rfl).frz 3
  go_wp2_with fail
  have e0:=(blk4 (HM4.out.at 2 rfl) (.int .i64 s) (.int .i64 0) (.int .i64 0) (.slice (some ⟨w3.heap.size,0,none⟩) 1 1)).cell (i:=0) rfl
  have e1:=(blk4 (HM4.out.at 2 rfl) (.int .i64 s) (.int .i64 0) (.int .i64 0) (.slice (some ⟨w3.heap.size,0,none⟩) 1 1)).cell (i:=1) rfl
  have e2:=(blk4 (HM4.out.at 2 rfl) (.int .i64 s) (.int .i64 0) (.int .i64 0) (.slice (some ⟨w3.heap.size,0,none⟩) 1 1)).cell (i:=2) rfl
  have e3:=(blk4 (HM4.out.at 2 rfl) (.int .i64 s) (.int .i64 0) (.int .i64 0) (.slice (some ⟨w3.heap.size,0,none⟩) 1 1)).cell (i:=3) rfl
  clear r0 r1 r2 r3 f0 f1 f2 f3
  refine bodyPost_ret (v := .agg #[.int .i64 s,.int .i64 0,.int .i64 0,.slice (some ⟨w3.heap.size,0,none⟩) 1 1]) (by simp [results,Try.results16,go_sem,e0,e1,e2,e3]) rfl ?_
  have hu:=upd4 (w3.alloc (.cells #[.int .i64 tk,.int .i64 tx,.int .i64 tw,.int .i64 ts,.int .i64 tl,.bool tg,.slice tvp tvn tvc,.slice tap tan tac] 76)) w.heap.size (.int .i64 s) (.int .i64 0) (.int .i64 0) (.slice (some ⟨w3.heap.size,0,none⟩) 1 1)
  have hT:=(HM4.out.t 0 rfl).1.upd hu (λ b hb hb2=>by have h1:w.heap.size+1≤b:=hb;have h2:b=w.heap.size:=hb2;omega)
  have hR:=(tr_app1 (A:=From (w.heap.size+1)) (HM4.out.t 0 rfl).1 (HM4.out.at 0 rfl) (show w.heap.size+1≤w3.heap.size from hgs.out)).upd hu (λ b hb hb2=>by have h1:w.heap.size+1≤b:=hb;have h2:b=w.heap.size:=hb2;omega)
  obtain ⟨hm5,hu5⟩:=HM4.out.end hu
  have hmono:∀ b,From (w.heap.size+1) b→From w.heap.size b:=λ b hb=>by have h1:w.heap.size+1≤b:=hb;show w.heap.size≤b;omega
  exact ⟨0,0,.cons ⟨tk,tw,ts,tl⟩ ta .nil,_,1,_,rfl,hR.mono hmono,hT.mono hmono,(HM4.out.t 0 rfl).2,by omega,by omega,by simp [TL.len],λ h=>(by simp [TL.len] at h),hm5,hu5⟩
 have hqi:¬(0:Int)<(xq:Int):=by omega
 have hxx:=Lib.hid (show 1≤xw∧xw≤8∧xq=0 from ⟨H.out.2.2.2.1.1,H.out.2.2.2.1.2.1,by omega⟩)
 clear hq
 cases dyn
 ·by_cases hk1:k=1
  ·subst hk1
   by_cases h1w:1<xw
   ·have h1i:(1:Int)<(xw:Int):=by omega
    go_wp2_with fail
    refine (next_any HM_w2.out.maker xw (by omega) (by have:=hxx.out.2.1;omega)).mono ?_;rintro e w3 ⟨lo,hlo,rfl,hk3,hu3⟩
    have HM_w3:=Lib.hid (HM_w2.out.call hk3 hu3);clear hk3 hu3 HM_w2 x1 x3 r0 r1 r2 r3 f0 f1 f2 f3
    have x1:=(HM_w3.out.at 0 rfl).cell (i:=1) rfl
    obtain ⟨q,hq⟩:∃ q,xw-lo=q:=⟨_,rfl⟩
    have hx8:=hxx.out.2.1
    have hqw:IntKind.i64.wrap ((xw:Int)-(lo:Int))=(q:Int):=by rw [i64_of (by omega)];omega
    go_wp2_with fail
    refine (next_any HM_w3.out.maker q (by omega) (by omega)).mono ?_;rintro e w4 ⟨r,hr,rfl,hk4,hu4⟩
    have HM_w4:=Lib.hid (HM_w3.out.call hk4 hu4);clear hk4 hu4 HM_w3 x1
    have r0:=(HM_w4.out.at 1 rfl).cell (i:=0) rfl
    have f0:=(HM_w4.out.at 1 rfl).frz 0
    have r1:=(HM_w4.out.at 1 rfl).cell (i:=1) rfl
    have f1:=(HM_w4.out.at 1 rfl).frz 1
    have r2:=(HM_w4.out.at 1 rfl).cell (i:=2) rfl
    have f2:=(HM_w4.out.at 1 rfl).frz 2
    have r3:=(HM_w4.out.at 1 rfl).cell (i:=3) rfl
    have f3:=(HM_w4.out.at 1 rfl).frz 3
    obtain ⟨wd,hwd⟩:∃ wd,1+r=wd:=⟨_,rfl⟩
    have hww:IntKind.i64.wrap (1+(r:Int))=(wd:Int):=by rw [i64_of (by omega)];omega
    have HQ:=Lib.hid (And.intro hlo (And.intro hq (And.intro hr hwd)))
    clear hlo hq hr hwd hx8
    go_wp2_with fail
    have e0:=(blk4 (HM_w4.out.at 1 rfl) (.int .i64 s) (.int .i64 lo) (.int .i64 wd) (.slice none 0 0)).cell (i:=0) rfl
    have e1:=(blk4 (HM_w4.out.at 1 rfl) (.int .i64 s) (.int .i64 lo) (.int .i64 wd) (.slice none 0 0)).cell (i:=1) rfl
    have e2:=(blk4 (HM_w4.out.at 1 rfl) (.int .i64 s) (.int .i64 lo) (.int .i64 wd) (.slice none 0 0)).cell (i:=2) rfl
    have e3:=(blk4 (HM_w4.out.at 1 rfl) (.int .i64 s) (.int .i64 lo) (.int .i64 wd) (.slice none 0 0)).cell (i:=3) rfl
    clear r0 r1 r2 r3 f0 f1 f2 f3
    refine bodyPost_ret (v := .agg #[.int .i64 s,.int .i64 lo,.int .i64 wd,.slice none 0 0]) (by simp [results,Try.results16,go_sem,e0,e1,e2,e3]) rfl ?_
    have hu:=upd4 w4 w.heap.size (.int .i64 s) (.int .i64 lo) (.int .i64 wd) (.slice none 0 0)
    obtain ⟨hm5,hu5⟩:=HM_w4.out.end hu
    exact ⟨lo,wd,.nil,none,0, [],rfl,ROA.nil,rfl,trivial,by have:=HQ.out.1;have:=hxx.out.2.1;omega,by have:=HQ.out;have:=hxx.out.2.1;omega,by simp [TL.len],λ _=>⟨by have:=HQ.out;omega,by have:=HQ.out;have:=hxx.out.2.1;omega,hxx.out.2.2⟩,hm5,hu5⟩
   ·have h1i:¬(1:Int)<(xw:Int):=by omega
    go_wp2_with fail
    have e0:=(blk4 (HM_w2.out.at 1 rfl) (.int .i64 s) (.int .i64 0) (.int .i64 xw) (.slice none 0 0)).cell (i:=0) rfl
    have e1:=(blk4 (HM_w2.out.at 1 rfl) (.int .i64 s) (.int .i64 0) (.int .i64 xw) (.slice none 0 0)).cell (i:=1) rfl
    have e2:=(blk4 (HM_w2.out.at 1 rfl) (.int .i64 s) (.int .i64 0) (.int .i64 xw) (.slice none 0 0)).cell (i:=2) rfl
    have e3:=(blk4 (HM_w2.out.at 1 rfl) (.int .i64 s) (.int .i64 0) (.int .i64 xw) (.slice none 0 0)).cell (i:=3) rfl
    clear r0 r1 r2 r3 f0 f1 f2 f3
    refine bodyPost_ret (v := .agg #[.int .i64 s,.int .i64 0,.int .i64 xw,.slice none 0 0]) (by simp [results,Try.results16,go_sem,e0,e1,e2,e3]) rfl ?_
    have hu:=upd4 w2 w.heap.size (.int .i64 s) (.int .i64 0) (.int .i64 xw) (.slice none 0 0)
    obtain ⟨hm5,hu5⟩:=HM_w2.out.end hu
    exact ⟨0,xw,.nil,none,0, [],rfl,ROA.nil,rfl,trivial,by omega,by have:=hxx.out.2.1;omega,by simp [TL.len],λ _=>⟨hxx.out.1,hxx.out.2.1,hxx.out.2.2⟩,hm5,hu5⟩
  ·have hk1i:((k:Int) == 1)=false:=by simp;omega
   go_wp2_with fail
   have e0:=(blk4 (HM_w2.out.at 1 rfl) (.int .i64 s) (.int .i64 0) (.int .i64 xw) (.slice none 0 0)).cell (i:=0) rfl
   have e1:=(blk4 (HM_w2.out.at 1 rfl) (.int .i64 s) (.int .i64 0) (.int .i64 xw) (.slice none 0 0)).cell (i:=1) rfl
   have e2:=(blk4 (HM_w2.out.at 1 rfl) (.int .i64 s) (.int .i64 0) (.int .i64 xw) (.slice none 0 0)).cell (i:=2) rfl
   have e3:=(blk4 (HM_w2.out.at 1 rfl) (.int .i64 s) (.int .i64 0) (.int .i64 xw) (.slice none 0 0)).cell (i:=3) rfl
   clear r0 r1 r2 r3 f0 f1 f2 f3
   refine bodyPost_ret (v := .agg #[.int .i64 s,.int .i64 0,.int .i64 xw,.slice none 0 0]) (by simp [results,Try.results16,go_sem,e0,e1,e2,e3]) rfl ?_
   have hu:=upd4 w2 w.heap.size (.int .i64 s) (.int .i64 0) (.int .i64 xw) (.slice none 0 0)
   obtain ⟨hm5,hu5⟩:=HM_w2.out.end hu
   exact ⟨0,xw,.nil,none,0, [],rfl,ROA.nil,rfl,trivial,by omega,by have:=hxx.out.2.1;omega,by simp [TL.len],λ _=>⟨hxx.out.1,hxx.out.2.1,hxx.out.2.2⟩,hm5,hu5⟩
 ·by_cases hk0:k=0
  ·subst hk0
   go_wp2_with fail
   refine (HOne2.out _ HM_w2.out.maker (HS1.out _ HM_w2.out.up)).mono ?_;intro e w3 hR;obtain ⟨⟨tk,tw,ts,tl⟩,ta,tx,tg,tvp,tvn,tvc,tap,tan,tac,rfl,ht,hw,hk3,hu3⟩:=hR.open;clear hR
   have HM_w3:=Lib.hid (HM_w2.out.tree hu3 hk3 ht hw);clear hk3 hu3 ht hw HM_w2 r0 r1 r2 r3 f0 f1 f2 f3 x1 x3
   have HM4:Hid (MX bm n w (w3.alloc (.cells #[.int .i64 tk,.int .i64 tx,.int .i64 tw,.int .i64 ts,.int .i64 tl,.bool tg,.slice tvp tvn tvc,.slice tap tan tac] 76)) _ _):=Lib.hid (HM_w3.out.lay 76 [.int .i64 tk,.int .i64 tx,.int .i64 tw,.int .i64 ts,.int .i64 tl,.bool tg,.slice tvp tvn tvc,.slice tap tan tac])
   have hgs:=Lib.hid HM_w3.out.big
   have r0:=(HM4.out.at 2 rfl).cell (i:=0) rfl
   have r1:=(HM4.out.at 2 rfl).cell (i:=1) rfl
   have r2:=(HM4.out.at 2 rfl).cell (i:=2) rfl
   have r3:=(HM4.out.at 2 rfl).cell (i:=3) rfl
   have f0:=(HM4.out.at 2 rfl).frz 0
   have f1:=(HM4.out.at 2 rfl).frz 1
   have f2:=(HM4.out.at 2 rfl).frz 2
   have f3:=(HM4.out.at 2 rfl).frz 3
   go_wp2_with fail
   have e0:=(blk4 (HM4.out.at 2 rfl) (.int .i64 s) (.int .i64 0) (.int .i64 0) (.slice (some ⟨w3.heap.size,0,none⟩) 1 1)).cell (i:=0) rfl
   have e1:=(blk4 (HM4.out.at 2 rfl) (.int .i64 s) (.int .i64 0) (.int .i64 0) (.slice (some ⟨w3.heap.size,0,none⟩) 1 1)).cell (i:=1) rfl
   have e2:=(blk4 (HM4.out.at 2 rfl) (.int .i64 s) (.int .i64 0) (.int .i64 0) (.slice (some ⟨w3.heap.size,0,none⟩) 1 1)).cell (i:=2) rfl
   have e3:=(blk4 (HM4.out.at 2 rfl) (.int .i64 s) (.int .i64 0) (.int .i64 0) (.slice (some ⟨w3.heap.size,0,none⟩) 1 1)).cell (i:=3) rfl
   clear r0 r1 r2 r3 f0 f1 f2 f3
   refine bodyPost_ret (v := .agg #[.int .i64 s,.int .i64 0,.int .i64 0,.slice (some ⟨w3.heap.size,0,none⟩) 1 1]) (by simp [results,Try.results16,go_sem,e0,e1,e2,e3]) rfl ?_
   have hu:=upd4 (w3.alloc (.cells #[.int .i64 tk,.int .i64 tx,.int .i64 tw,.int .i64 ts,.int .i64 tl,.bool tg,.slice tvp tvn tvc,.slice tap tan tac] 76)) w.heap.size (.int .i64 s) (.int .i64 0) (.int .i64 0) (.slice (some ⟨w3.heap.size,0,none⟩) 1 1)
   have hT:=(HM4.out.t 0 rfl).1.upd hu (λ b hb hb2=>by have h1:w.heap.size+1≤b:=hb;have h2:b=w.heap.size:=hb2;omega)
   have hR:=(tr_app1 (A:=From (w.heap.size+1)) (HM4.out.t 0 rfl).1 (HM4.out.at 0 rfl) (show w.heap.size+1≤w3.heap.size from hgs.out)).upd hu (λ b hb hb2=>by have h1:w.heap.size+1≤b:=hb;have h2:b=w.heap.size:=hb2;omega)
   obtain ⟨hm5,hu5⟩:=HM4.out.end hu
   have hmono:∀ b,From (w.heap.size+1) b→From w.heap.size b:=λ b hb=>by have h1:w.heap.size+1≤b:=hb;show w.heap.size≤b;omega
   exact ⟨0,0,.cons ⟨tk,tw,ts,tl⟩ ta .nil,_,1,_,rfl,hR.mono hmono,hT.mono hmono,(HM4.out.t 0 rfl).2,by omega,by omega,by simp [TL.len],λ h=>(by simp [TL.len] at h),hm5,hu5⟩
  ·have hk0i:((k:Int) == 0)=false:=by simp;omega
   by_cases hk1:k=1
   ·subst hk1
    by_cases h1w:1<xw
    ·have h1i:(1:Int)<(xw:Int):=by omega
     go_wp2_with fail
     refine (next_any HM_w2.out.maker xw (by omega) (by have:=hxx.out.2.1;omega)).mono ?_;rintro e w3 ⟨lo,hlo,rfl,hk3,hu3⟩
     have HM_w3:=Lib.hid (HM_w2.out.call hk3 hu3);clear hk3 hu3 HM_w2 x1 x3 r0 r1 r2 r3 f0 f1 f2 f3
     have x1:=(HM_w3.out.at 0 rfl).cell (i:=1) rfl
     obtain ⟨q,hq⟩:∃ q,xw-lo=q:=⟨_,rfl⟩
     have hx8:=hxx.out.2.1
     have hqw:IntKind.i64.wrap ((xw:Int)-(lo:Int))=(q:Int):=by rw [i64_of (by omega)];omega
     go_wp2_with fail
     refine (next_any HM_w3.out.maker q (by omega) (by omega)).mono ?_;rintro e w4 ⟨r,hr,rfl,hk4,hu4⟩
     have HM_w4:=Lib.hid (HM_w3.out.call hk4 hu4);clear hk4 hu4 HM_w3 x1
     have r0:=(HM_w4.out.at 1 rfl).cell (i:=0) rfl
     have f0:=(HM_w4.out.at 1 rfl).frz 0
     have r1:=(HM_w4.out.at 1 rfl).cell (i:=1) rfl
     have f1:=(HM_w4.out.at 1 rfl).frz 1
     have r2:=(HM_w4.out.at 1 rfl).cell (i:=2) rfl
     have f2:=(HM_w4.out.at 1 rfl).frz 2
     have r3:=(HM_w4.out.at 1 rfl).cell (i:=3) rfl
     have f3:=(HM_w4.out.at 1 rfl).frz 3
     obtain ⟨wd,hwd⟩:∃ wd,1+r=wd:=⟨_,rfl⟩
     have hww:IntKind.i64.wrap (1+(r:Int))=(wd:Int):=by rw [i64_of (by omega)];omega
     have HQ:=Lib.hid (And.intro hlo (And.intro hq (And.intro hr hwd)))
     clear hlo hq hr hwd hx8
     go_wp2_with fail
     have e0:=(blk4 (HM_w4.out.at 1 rfl) (.int .i64 s) (.int .i64 lo) (.int .i64 wd) (.slice none 0 0)).cell (i:=0) rfl
     have e1:=(blk4 (HM_w4.out.at 1 rfl) (.int .i64 s) (.int .i64 lo) (.int .i64 wd) (.slice none 0 0)).cell (i:=1) rfl
     have e2:=(blk4 (HM_w4.out.at 1 rfl) (.int .i64 s) (.int .i64 lo) (.int .i64 wd) (.slice none 0 0)).cell (i:=2) rfl
     have e3:=(blk4 (HM_w4.out.at 1 rfl) (.int .i64 s) (.int .i64 lo) (.int .i64 wd) (.slice none 0 0)).cell (i:=3) rfl
     clear r0 r1 r2 r3 f0 f1 f2 f3
     refine bodyPost_ret (v := .agg #[.int .i64 s,.int .i64 lo,.int .i64 wd,.slice none 0 0]) (by simp [results,Try.results16,go_sem,e0,e1,e2,e3]) rfl ?_
     have hu:=upd4 w4 w.heap.size (.int .i64 s) (.int .i64 lo) (.int .i64 wd) (.slice none 0 0)
     obtain ⟨hm5,hu5⟩:=HM_w4.out.end hu
     exact ⟨lo,wd,.nil,none,0, [],rfl,ROA.nil,rfl,trivial,by have:=HQ.out.1;have:=hxx.out.2.1;omega,by have:=HQ.out;have:=hxx.out.2.1;omega,by simp [TL.len],λ _=>⟨by have:=HQ.out;omega,by have:=HQ.out;have:=hxx.out.2.1;omega,hxx.out.2.2⟩,hm5,hu5⟩
    ·have h1i:¬(1:Int)<(xw:Int):=by omega
     go_wp2_with fail
     have e0:=(blk4 (HM_w2.out.at 1 rfl) (.int .i64 s) (.int .i64 0) (.int .i64 xw) (.slice none 0 0)).cell (i:=0) rfl
     have e1:=(blk4 (HM_w2.out.at 1 rfl) (.int .i64 s) (.int .i64 0) (.int .i64 xw) (.slice none 0 0)).cell (i:=1) rfl
     have e2:=(blk4 (HM_w2.out.at 1 rfl) (.int .i64 s) (.int .i64 0) (.int .i64 xw) (.slice none 0 0)).cell (i:=2) rfl
     have e3:=(blk4 (HM_w2.out.at 1 rfl) (.int .i64 s) (.int .i64 0) (.int .i64 xw) (.slice none 0 0)).cell (i:=3) rfl
     clear r0 r1 r2 r3 f0 f1 f2 f3
     refine bodyPost_ret (v := .agg #[.int .i64 s,.int .i64 0,.int .i64 xw,.slice none 0 0]) (by simp [results,Try.results16,go_sem,e0,e1,e2,e3]) rfl ?_
     have hu:=upd4 w2 w.heap.size (.int .i64 s) (.int .i64 0) (.int .i64 xw) (.slice none 0 0)
     obtain ⟨hm5,hu5⟩:=HM_w2.out.end hu
     exact ⟨0,xw,.nil,none,0, [],rfl,ROA.nil,rfl,trivial,by omega,by have:=hxx.out.2.1;omega,by simp [TL.len],λ _=>⟨hxx.out.1,hxx.out.2.1,hxx.out.2.2⟩,hm5,hu5⟩
   ·have hk1i:((k:Int) == 1)=false:=by simp;omega
    go_wp2_with fail
    have e0:=(blk4 (HM_w2.out.at 1 rfl) (.int .i64 s) (.int .i64 0) (.int .i64 xw) (.slice none 0 0)).cell (i:=0) rfl
    have e1:=(blk4 (HM_w2.out.at 1 rfl) (.int .i64 s) (.int .i64 0) (.int .i64 xw) (.slice none 0 0)).cell (i:=1) rfl
    have e2:=(blk4 (HM_w2.out.at 1 rfl) (.int .i64 s) (.int .i64 0) (.int .i64 xw) (.slice none 0 0)).cell (i:=2) rfl
    have e3:=(blk4 (HM_w2.out.at 1 rfl) (.int .i64 s) (.int .i64 0) (.int .i64 xw) (.slice none 0 0)).cell (i:=3) rfl
    clear r0 r1 r2 r3 f0 f1 f2 f3
    refine bodyPost_ret (v := .agg #[.int .i64 s,.int .i64 0,.int .i64 xw,.slice none 0 0]) (by simp [results,Try.results16,go_sem,e0,e1,e2,e3]) rfl ?_
    have hu:=upd4 w2 w.heap.size (.int .i64 s) (.int .i64 0) (.int .i64 xw) (.slice none 0 0)
    obtain ⟨hm5,hu5⟩:=HM_w2.out.end hu
    exact ⟨0,xw,.nil,none,0, [],rfl,ROA.nil,rfl,trivial,by omega,by have:=hxx.out.2.1;omega,by simp [TL.len],λ _=>⟨hxx.out.1,hxx.out.2.1,hxx.out.2.2⟩,hm5,hu5⟩
theorem twidth_any {w:World} {p:Option Addr} {c:Nat} {l:List Sg} (hS:Sgs l) (s:Nat) {x:Sg} (hx:l[s]? = some x) (lo wd n:Nat) (pi:Option Addr) (ci:Nat) (h0:n=0→1≤wd∧wd≤8∧x.words=0) (hs:RO w (.slice p l.length c) 4 l.length (sigCells l)) :
  Calls Try.prog 17 #[.slice p l.length c,.agg #[.int .i64 s,.int .i64 lo,.int .i64 wd,.slice pi n ci]] w λ e w'=>∃ m:Nat,e = .returned (.int .i64 m)∧1≤m∧m≤8∧Below w.heap.size w w':=by
 have hsl:=(List.getElem?_eq_some_iff.1 hx).1
 have hxw:=hS.w _ (List.mem_of_getElem? hx)
 obtain ⟨b,o,rfl⟩:=hs.sl (sigCells_at hx).1
 have hb1:=Below.new w (.cells #[.int .i64 s,.int .i64 lo,.int .i64 wd,.slice pi n ci] 79)
 have s1:=(hs.below hb1).cell (sigCells_at hx).2.1
 have s3:=(hs.below hb1).cell (sigCells_at hx).2.2.2
 rw [←Nat.add_assoc] at s1 s3
 obtain ⟨xn,xw,xg,xq⟩:=x
 dsimp only at s1 s3 hxw h0
 generalize l.length=N at *
 have hsN:(s:Int)<(N:Int):=by omega
 have hs00:(0:Int)≤(s:Int):=by omega
 have H:=Lib.hid (And.intro hxw (And.intro h0 hb1))
 clear hS hxw hsl hs hx h0 hb1
 by_cases hn:n=0
 ·subst hn
  clear s1 s3
  go_enter Try.func17,Try.ntmps17
  go_wp2_with fail
  go_ret
  exact ⟨wd,rfl,(H.out.2.1 trivial).1,(H.out.2.1 trivial).2.1,H.out.2.2⟩
 ·have hni:((n:Int) == 0)=false:=by simp;omega
  by_cases hq:0<xq
  ·have hqi:(0:Int)<(xq:Int):=by omega
   clear hn hq
   go_enter Try.func17,Try.ntmps17
   go_wp2_with fail
   go_ret
   exact ⟨xw,rfl,H.out.1.1,H.out.1.2.1,H.out.2.2⟩
  ·have hqi:¬(0:Int)<(xq:Int):=by omega
   clear hn hq
   go_enter Try.func17,Try.ntmps17
   go_wp2_with fail
   go_ret
   exact ⟨1,rfl,by omega,by omega,H.out.2.2⟩
def Off (w:World) (bs:List (Nat × Nat × List Value)) (b:Nat):Prop:=w.heap.size≤b∧∀ x∈bs,x.1≠b
theorem SR.upd {A:Nat→Prop} {F F':Nat→Prop} {w w':World} {t:SL} {cs:List Value} (h:SR A w t cs) (hu:Upd F F' w w') (hA:∀ b,A b→¬F b):SR A w' t cs :=
 h.turn ER.stay λ b hb1 hb2=>⟨hb1,hu.block b hb2 (hA b hb1)⟩
theorem SR.mono {A A':Nat→Prop} {w:World} {t:SL} {cs:List Value} (h:SR A w t cs) (hA:∀ b,A b→A' b):SR A' w t cs :=
 h.turn ER.stay λ b hb1 hb2=>⟨hA b hb1,rfl⟩
structure MY (bm n:Nat) (w W:World) (bs:List (Nat × Nat × List Value)) (ts:List (TL × List Value)) (ss:List (SL × List Value)) (rs:List (Value × Nat × Nat × List Value)):Prop where
 maker:Mk bm W
 up:Upd (One bm) (One bm) w W
 lt:bm<w.heap.size
 blk:∀ b∈bs,Blk W b.1 b.2.1 b.2.2∧w.heap.size≤b.1
 nd:(bs.map (·.1)).Nodup
 tr:∀ t∈ts,TR (Off w bs) W t.1 t.2∧t.1.wf n
 sr:∀ t∈ss,SR (Off w bs) W t.1 t.2∧t.1.wf n
 rr:∀ r∈rs,ROA (Off w bs) W r.1 r.2.1 r.2.2.1 r.2.2.2
section
variable {bm n:Nat} {w W W':World} {bs:List (Nat × Nat × List Value)} {ts:List (TL × List Value)} {ss:List (SL × List Value)} {rs:List (Value × Nat × Nat × List Value)}
theorem off_ne (h:bm<w.heap.size):∀ b,Off w bs b→¬One bm b:=λ b hb hb2=>by
 have h1:=hb.1
 have h2:b=bm:=hb2
 omega
theorem MY.start (hk:Mk bm w):MY bm n w w [] [] [] [] :=
 ⟨hk,Upd.refl _ _,hk.lt,λ b hb=>(by cases hb),(by simp),λ b hb=>(by cases hb),λ b hb=>(by cases hb),λ b hb=>(by cases hb)⟩
theorem MY.call (h:MY bm n w W bs ts ss rs) (hm:Mk bm W') (hu:Upd (One bm) (One bm) W W'):MY bm n w W' bs ts ss rs :=
 ⟨hm,h.up.trans hu,h.lt,λ b hb=>⟨hu.blk (h.blk b hb).1 (λ e=>by have:=(h.blk b hb).2;have:=h.lt;have:b.1=bm:=e;omega),(h.blk b hb).2⟩,h.nd,λ t ht=>⟨(h.tr t ht).1.upd hu (off_ne h.lt),(h.tr t ht).2⟩,λ t ht=>⟨(h.sr t ht).1.upd hu (off_ne h.lt),(h.sr t ht).2⟩,λ r hr=>(h.rr r hr).upd hu (off_ne h.lt)⟩
theorem MY.below (h:MY bm n w W bs ts ss rs) (hb:Below W.heap.size W W'):MY bm n w W' bs ts ss rs:=h.call (h.maker.below hb) (Upd.below hb)
theorem MY.lay (h:MY bm n w W bs ts ss rs) (t:Nat) (l:List Value):MY bm n w (W.alloc (.cells l.toArray t)) ((W.heap.size,t,l)::bs) ts ss rs:=by
 have h':=h.below (Below.new W (.cells l.toArray t))
 have hA:∀ b,Off w bs b→b<W.heap.size→Off w ((W.heap.size,t,l)::bs) b∧(W.alloc (.cells l.toArray t)).heap[b]? = W.heap[b]? := λ b hb hlt=>by
  refine ⟨⟨hb.1,λ x hx => ?_⟩,(Below.new W (.cells l.toArray t)).block b hlt⟩
  rcases List.mem_cons.1 hx with rfl | hx
  ·show W.heap.size≠b;omega
  ·exact hb.2 x hx
 refine ⟨h'.maker,h'.up,h'.lt,λ b hb => ?_,?_,λ x hx=>⟨(h.tr x hx).1.turn ER.stay hA,(h.tr x hx).2⟩,λ x hx=>⟨(h.sr x hx).1.turn ER.stay hA,(h.sr x hx).2⟩,λ x hx=>(h.rr x hx).turn hA⟩
 ·rcases List.mem_cons.1 hb with rfl | hb
  ·exact ⟨Blk.new t l,h.up.size⟩
  ·exact h'.blk b hb
 ·rw [List.map_cons,List.nodup_cons]
  refine ⟨λ hm => ?_,h.nd⟩
  obtain ⟨p,hp,e⟩:=List.mem_map.1 hm
  have:=(h.blk p hp).1.lt
  dsimp only at e;omega
theorem MY.at (h:MY bm n w W bs ts ss rs) (j:Nat) {b t:Nat} {l:List Value} (hj:bs[j]? = some (b,t,l)):Blk W b t l:=(h.blk _ (List.mem_of_getElem? hj)).1
theorem MY.t (h:MY bm n w W bs ts ss rs) (j:Nat) {t:TL} {cs:List Value} (hj:ts[j]? = some (t,cs)):TR (Off w bs) W t cs∧t.wf n:=h.tr _ (List.mem_of_getElem? hj)
theorem MY.s (h:MY bm n w W bs ts ss rs) (j:Nat) {t:SL} {cs:List Value} (hj:ss[j]? = some (t,cs)):SR (Off w bs) W t cs∧t.wf n:=h.sr _ (List.mem_of_getElem? hj)
theorem MY.r (h:MY bm n w W bs ts ss rs) (j:Nat) {v:Value} {k m:Nat} {cs:List Value} (hj:rs[j]? = some (v,k,m,cs)):ROA (Off w bs) W v k m cs:=h.rr _ (List.mem_of_getElem? hj)
theorem MY.newA (h:MY bm n w W bs ts ss rs):∀ b,From W.heap.size b→Off w bs b:=λ b hb=>⟨Nat.le_trans h.up.size hb,λ x hx e=>by
 have:=(h.blk x hx).1.lt
 have hb':W.heap.size≤b:=hb
 omega⟩
theorem MY.tree (h:MY bm n w W bs ts ss rs) (hm:Mk bm W') (hu:Upd (One bm) (One bm) W W') {t:TL} {cs:List Value} (ht:TR (From W.heap.size) W' t cs) (hw:t.wf n):MY bm n w W' bs ((t,cs)::ts) ss rs:=by
 have h':=h.call hm hu
 refine ⟨h'.maker,h'.up,h'.lt,h'.blk,h'.nd,λ x hx => ?_,h'.sr,h'.rr⟩
 rcases List.mem_cons.1 hx with rfl | hx
 ·exact ⟨ht.mono h.newA,hw⟩
 ·exact h'.tr x hx
theorem MY.idx (h:MY bm n w W bs ts ss rs) (hm:Mk bm W') (hu:Upd (One bm) (One bm) W W') {t:TL} {cs:List Value} {v:Value} (hr:ROA (From W.heap.size) W' v 8 t.len cs) (ht:TR (From W.heap.size) W' t cs) (hw:t.wf n):MY bm n w W' bs ((t,cs)::ts) ss ((v,8,t.len,cs)::rs):=by
 have h':=h.tree hm hu ht hw
 refine ⟨h'.maker,h'.up,h'.lt,h'.blk,h'.nd,h'.tr,h'.sr,λ x hx => ?_⟩
 rcases List.mem_cons.1 hx with rfl | hx
 ·exact hr.mono h.newA
 ·exact h'.rr x hx
theorem MY.stmts (h:MY bm n w W bs ts ss rs) (hm:Mk bm W') (hu:Upd (One bm) (One bm) W W') {t:SL} {cs:List Value} {v:Value} (hr:ROA (From W.heap.size) W' v 16 t.len cs) (ht:SR (From W.heap.size) W' t cs) (hw:t.wf n):MY bm n w W' bs ts ((t,cs)::ss) ((v,16,t.len,cs)::rs):=by
 have h':=h.call hm hu
 refine ⟨h'.maker,h'.up,h'.lt,h'.blk,h'.nd,h'.tr,λ x hx => ?_,λ x hx => ?_⟩
 ·rcases List.mem_cons.1 hx with rfl | hx
  ·exact ⟨ht.mono h.newA,hw⟩
  ·exact h'.sr x hx
 ·rcases List.mem_cons.1 hx with rfl | hx
  ·exact hr.mono h.newA
  ·exact h'.rr x hx
theorem MY.set {b t:Nat} {l:List Value} (h:MY bm n w W ((b,t,l)::bs) ts ss rs) (i:Nat) (u:Value):MY bm n w (W.setCell ⟨b,i,none⟩ u) ((b,t,l.set i u)::bs) ts ss rs:=by
 have hu:Upd (One b) (One b) W (W.setCell ⟨b,i,none⟩ u):=upd_cell1 u
 have hb:=h.blk (b,t,l) List.mem_cons_self
 have hbm:=h.lt
 have hg:w.heap.size≤b:=hb.2
 have hA:∀ k,Off w ((b,t,l)::bs) k→k<W.heap.size→Off w ((b,t,l.set i u)::bs) k∧(W.setCell ⟨b,i,none⟩ u).heap[k]? = W.heap[k]? := λ k hk hlt=>by
  have hne:b≠k:=hk.2 (b,t,l) List.mem_cons_self
  refine ⟨⟨hk.1,λ x hx => ?_⟩,hu.block k hlt (λ e=>hne (Eq.symm e))⟩
  rcases List.mem_cons.1 hx with rfl | hx
  ·exact hne
  ·exact hk.2 x (List.mem_cons_of_mem _ hx)
 have hnd:=h.nd
 rw [List.map_cons,List.nodup_cons] at hnd
 refine ⟨?_,?_,h.lt,λ x hx => ?_,by simpa using h.nd,λ x hx=>⟨(h.tr x hx).1.turn ER.stay hA,(h.tr x hx).2⟩,λ x hx=>⟨(h.sr x hx).1.turn ER.stay hA,(h.sr x hx).2⟩,λ x hx=>(h.rr x hx).turn hA⟩
 ·obtain ⟨p,m,c,l',i',h1,h2,h3⟩:=h.maker.ex
  exact ⟨p,m,c,l',i',hu.blk h1 (λ e=>by have e':bm=b:=e;omega),h2.upd hu (λ k hk hk2=>by have h2:k=b:=hk2;omega),h3⟩
 ·refine ⟨hu.os.trans h.up.os,hu.tape.trans h.up.tape,hu.output.trans h.up.output,Nat.le_trans h.up.size hu.size,λ k hk hn => ?_,λ k hk => .inl hk⟩
  rw [hu.block k (Nat.lt_of_lt_of_le hk h.up.size) (λ e=>by have e':k=b:=e;omega)]
  exact h.up.block k hk hn
 ·rcases List.mem_cons.1 hx with rfl | hx
  ·exact ⟨hb.1.set i u,hb.2⟩
  ·refine ⟨hu.blk (h.blk x (List.mem_cons_of_mem _ hx)).1 (λ e=>hnd.1 ?_),(h.blk x (List.mem_cons_of_mem _ hx)).2⟩
   have e':x.1=b:=e
   exact List.mem_map.2 ⟨x,hx,e'⟩
end
def StR (bm n:Nat) (w:World) (e:Ending) (w':World):Prop :=
 ∃ (t:SL) (p:Option Addr) (c:Nat) (sc:List Value),e = .returned (.slice p t.len c)∧w'.ownsRow w.heap.size 81 16 (.slice p t.len c) t.len sc∧SR (λ b=>w.heap.size≤b∧(Value.slice p t.len c).ownBlock≠some b) w' t sc∧t.wf n∧t.len≤3∧Mk bm w'∧Upd (One bm) (One bm) w w'
def SL.app:SL→SL→SL
 | .nil,s=>s
 | .cons h b e r,s => .cons h b e (r.app s)
theorem SL.app_len:∀ (t s:SL),(t.app s).len=t.len+s.len
 | .nil,s=>by simp [SL.app,SL.len]
 | .cons h b e r,s=>by simp only [SL.app,SL.len,SL.app_len r s];omega
theorem SL.app_wf {n:Nat}:∀ {t s:SL},t.wf n→s.wf n→(t.app s).wf n
 | .nil,_,_,hs=>hs
 | .cons h b e r,s,ht,hs=>⟨ht.1,ht.2.1,ht.2.2.1,ht.2.2.2.1,ht.2.2.2.2.1,SL.app_wf ht.2.2.2.2.2 hs⟩
theorem SG.app {kp k:Nat} {E} {A:Nat→Prop} {w:World}:∀ {t s:SL} {cs ds:List Value},SG kp k E A w t cs→SG kp k E A w s ds→SG kp k E A w (t.app s) (cs++ds)
 | .nil,_,_,_,h,hs=>by have:_ = []:=h;subst this;exact hs
 | .cons h b e r,_,_,_,⟨idxv,ic,vc,bv,bc,ev,ec,cs',h1,h2,h3,h4,h5,h6,h7,h8,h9⟩,hs =>
  ⟨idxv,ic,vc,bv,bc,ev,ec,cs'++_,by rw [h1,List.append_assoc],h2,h3,h4,h5,h6,h7,h8,h9.app hs⟩
theorem own_lt' {w:World} {base e size n:Nat} {v:Value} {xs:List Value} (h:w.ownsRow base e size v n xs):∀ g,v.ownBlock=some g→base≤g∧g<w.heap.size:=λ g hg=>by
 rcases h.2 with ⟨rfl,_⟩ | ⟨g',cap,cur,rfl,h1,h2,_⟩
 ·cases hg
 ·cases hg;exact ⟨h1,some_lt h2⟩
structure OutS (bm n:Nat) (w wr:World) (v:Value) (t:SL) (oc:List Value):Prop where
 own:wr.ownsRow w.heap.size 81 16 v t.len oc
 sr:SR (λ b=>w.heap.size≤b∧v.ownBlock≠some b) wr t oc
 wf:t.wf n
 maker:Mk bm wr
 up:Upd (One bm) (One bm) w wr
 lt:bm<w.heap.size
theorem OutS.app {bm n:Nat} {w wr W W':World} {v:Value} {t:SL} {oc nc:List Value} {h:SH} {b e:SL} {bs ts ss rs} {g cap:Nat} (H:OutS bm n w wr v t oc) (hY:MY bm n wr W bs ts ss rs) (hn:SR (Off wr bs) W (.cons h b e .nil) nc) (hw:(SL.cons h b e .nil).wf n)
  (happ:App w.heap.size 81 16 W v t.len 1 (oc++nc) g cap W'):OutS bm n w W' (.slice (some ⟨g,0,none⟩) (t.len+1) cap) (t.app (.cons h b e .nil)) (oc++nc):=by
 have hvl:∀ k,v.ownBlock=some k→w.heap.size≤k∧k<wr.heap.size:=own_lt' H.own
 have hsz:=hY.up.size
 have hsW:=H.up.size
 have hbm:=H.lt
 refine ⟨?_,SG.app ?_ ?_,SL.app_wf H.wf hw,?_,?_,H.lt⟩
 ·rw [SL.app_len];exact happ.own
 ·refine H.sr.turn ER.stay λ k hk hlt=>⟨⟨hk.1,λ e => ?_⟩,?_⟩
  rotate_left
  ·simp only [Value.ownBlock,Option.some.injEq] at e
   subst e
   rcases happ.at_ with e | e
   ·exact hk.2 e
   ·omega
  ·rw [happ.old (Nat.lt_of_lt_of_le hlt hsz) hk.2,hY.up.block k hlt (λ e=>by have e':k=bm:=e;have:=hk.1;omega)]
 ·refine hn.turn ER.stay λ k hk hlt=>⟨⟨Nat.le_trans hsW hk.1,λ e => ?_⟩,?_⟩
  rotate_left
  ·simp only [Value.ownBlock,Option.some.injEq] at e
   subst e
   rcases happ.at_ with e | e
   ·have:=(hvl g e).2;have:=hk.1;omega
   ·omega
  ·exact happ.old hlt λ e=>by have:=(hvl k e).2;have:=hk.1;omega
 ·obtain ⟨p,m,c,l',i',h1,h2,h3⟩:=hY.maker.ex
  have hne:∀ k,k≤bm→k<W.heap.size→W'.heap[k]? = W.heap[k]? := λ k hk hlt=>happ.old hlt λ e=>by have:=(hvl k e).1;omega
  refine ⟨p,m,c,l',i',?_,h2.turn λ k hk hlt=>⟨hk,hne k (Nat.le_of_lt hk) hlt⟩,h3⟩
  unfold Blk at h1 ⊢
  rw [hne bm (Nat.le_refl _) (some_lt h1)];exact h1
 ·refine ⟨happ.grown.os.trans (hY.up.os.trans H.up.os),happ.grown.tape.trans (hY.up.tape.trans H.up.tape),happ.grown.output.trans (hY.up.output.trans H.up.output),Nat.le_trans hsW (Nat.le_trans hsz happ.grown.size),λ k hk hnk => ?_,λ k hk => .inl hk⟩
  rw [happ.old (by omega) (λ e=>by have:=(hvl k e).1;omega),hY.up.block k (by omega) hnk,H.up.block k hk hnk]
end Go.Proofs.Ytlklleaocbnbcaa
