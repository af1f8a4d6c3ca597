import Derived.Test.YtlklleaocbnbcaaZ21
namespace Go.Proofs.Ytlklleaocbnbcaa
set_option linter.unusedVariables false
open Go.RowKit Go.Sort
theorem sf_at {A:Nat→Prop} {w:World} {h:SH} {b e r:SL} {sc:List Value} {i:Nat} (ht:SF A w (.cons h b e r) (sc.drop (i*20))) :
  ∃ cs:List Value,cs.length=20∧(∀ j,j<20→sc[i*20+j]? = cs[j]?)∧SF A w (.cons h b e .nil) cs∧SF A w r (sc.drop ((i+1)*20)):=by
 obtain ⟨idxv,ic,vc,bv,bc,ev,ec,cs',h1,h2,h3,h4,h5,h6,h7,h8,h9⟩:=ht
 have hone:SF A w (.cons h b e .nil) (scells 3 h idxv vc bv ev):=⟨idxv,ic,vc,bv,bc,ev,ec, [],(List.append_nil _).symm,h2,h3,h4,h5,h6,h7,h8,rfl⟩
 have hl:(scells 3 h idxv vc bv ev).length=20:=by have:=hone.len;simpa [SL.len] using this
 refine ⟨_,hl,λ j hj => ?_,hone,?_⟩
 ·rw [←List.getElem?_drop,h1,List.getElem?_append_left (by rw [hl];exact hj)]
 ·rw [Nat.add_mul,Nat.one_mul,←List.drop_drop,h1,List.drop_append_of_le_length (by rw [hl];exact Nat.le_refl _),List.drop_of_length_le (by rw [hl];exact Nat.le_refl _),List.nil_append]
  exact h9
theorem sf_one {A:Nat→Prop} {w:World} {h:SH} {b e:SL} {cs:List Value} (hs:SF A w (.cons h b e .nil) cs) :
  ∃ (op:Int) (sg:Bool) (vw:Int) (pv:Option Addr) (vn vc:Nat) (pa:Option Addr) (ca:Nat) (pi:Option Addr) (ci:Nat) (ic:List Value) (pb:Option Addr) (cb:Nat) (bc:List Value) (pe:Option Addr) (ce:Nat) (ec:List Value),
   cs = [.int .i64 (h.k:Nat),.int .i64 0,.int .i64 0,.int .i64 0,.int .i64 (h.s:Nat),.int .i64 (h.lo:Nat),.int .i64 (h.wd:Nat),.slice pi h.idx.len ci,.int .i64 (h.vh.k:Nat),.int .i64 op,.int .i64 (h.vh.w:Nat),.int .i64 (h.vh.s:Nat),.int .i64 (h.vh.lo:Nat),.bool sg,.int .i64 vw,.slice pv vn vc,.slice pa h.va.len ca,.slice pb b.len cb,.slice pe e.len ce,.int .i64 (h.asr:Nat)] ∧
   TF A w (.cons h.vh h.va .nil) [.int .i64 (h.vh.k:Nat),.int .i64 op,.int .i64 (h.vh.w:Nat),.int .i64 (h.vh.s:Nat),.int .i64 (h.vh.lo:Nat),.bool sg,.int .i64 vw,.slice pv vn vc,.slice pa h.va.len ca] ∧
   ROA A w (.slice pi h.idx.len ci) 9 h.idx.len ic∧TF A w h.idx ic∧ROA A w (.slice pb b.len cb) 20 b.len bc∧SF A w b bc∧ROA A w (.slice pe e.len ce) 20 e.len ec∧SF A w e ec:=by
 obtain ⟨idxv,ic,vc,bv,bc,ev,ec,cs',h1,h2,h3,h4,h5,h6,h7,h8,h9⟩:=hs
 have:cs' = []:=h9
 subst this
 obtain ⟨op,sg,vw,pv,vn,vc',pa,ca,ac,rfl,hr,ha⟩:=tf_one h2
 obtain ⟨pi,ci,rfl,_⟩:=h3.form
 obtain ⟨pb,cb,rfl,_⟩:=h5.form
 obtain ⟨pe,ce,rfl,_⟩:=h7.form
 exact ⟨op,sg,vw,pv,vn,vc',pa,ca,pi,ci,ic,pb,cb,bc,pe,ce,ec,by rw [h1,List.append_nil];rfl,h2,h3,h4,h5,h6,h7,h8⟩
theorem setCells_new (w:World) (t:TypeId):∀ (vs:List Value) (o:Nat) (l:List Value),(w.alloc (.cells l.toArray t)).setCells w.heap.size o vs=w.alloc (.cells (putAt l o vs).toArray t)
 | [],_,_=>rfl
 | v::r,o,l=>by
  rw [World.setCells,World.setCell_alloc_new]
  have e:l.toArray.setIfInBounds o v=(l.set o v).toArray:=by simp
  rw [e]
  exact setCells_new w t r (o+1) (l.set o v)
theorem wpList_store_new {P:Program} {ops:Array Oper} {rest:List Oper} {op:Oper} {a:Act} {w:World} {Q:Exit→Act→World→Prop} (hgd:op.guard=none) (ty:TypeId) (x y:Operand) (ho:op.op = .store ty x y)
  (cells zs:List Value) (t:TypeId) (hx:a.eval x = .pointer (some ⟨w.heap.size,0,none⟩)) (hy:a.eval y = .agg cells.toArray) (hl:cells.length=zs.length) (hi:(P.info? ty).map (·.size)=some cells.length) (h1:∀ u∈cells,u.oneCell'=true)
  (h:wpList P ops Q rest (a.put op.dst undef) (w.alloc (.cells cells.toArray t))):wpList P ops Q (op::rest) a (w.alloc (.cells zs.toArray t)):=by
 refine wpList_store_mid hgd ty x y ho w.heap.size 0 cells.toArray hx hy (λ j hj => ?_) (by simpa using hi) (all_oneCell_toArray h1) ?_
 ·have hj':j<zs.length:=by rw [←hl];simpa using hj
  have hk:=Blk.new (w:=w) t zs
  rw [Nat.zero_add]
  exact ⟨by rw [hk.cell (List.getElem?_eq_getElem hj')];rfl,hk.frz j⟩
 ·rw [setCells_new,putAt_all hl]
  exact h
structure Vis (n:Nat) (k:Nat) (bs:Array Value) (base:Nat) (w0:World) (St:List SH→Bx→World→Prop):Prop where
 ent:∀ args w,Sem.run Try.prog (callFunc k args) w = .ok (.enter k args) w
 lay:∀ {d ks W} (t:Nat) (l:List Value),St d ks W→St d ((W.heap.size,t,l)::ks) (W.alloc (.cells l.toArray t))
 drop:∀ {d ks W} (j:Nat),St d ks W→St d (ks.drop j) W
 blk:∀ {d ks W},St d ks W→∀ x∈ks,Blk W x.1 x.2.1 x.2.2
 low:∀ {d ks W},St d ks W→Below base w0 W
 vis:∀ {d ks W} {h:SH} {b e:SL} {cs:List Value},St d ks W→h.wf n→SF (λ q=>q<base) w0 (.cons h b e .nil) cs→Calls Try.prog k (#[.agg cs.toArray]++bs) W λ e w'=>e = .returned (.tuple #[])∧St (d ++ [h]) ks w'
def WlkC (k:Nat) (bs:Array Value) (base:Nat) (w0:World) (St:List SH→Bx→World→Prop) (t:SL):Prop :=
 ∀ (d:List SH) (ks:Bx) (W:World) (p:Option Addr) (c:Nat) (cs:List Value),St d ks W→ROA (λ q=>q<base) w0 (.slice p t.len c) 20 t.len cs→SF (λ q=>q<base) w0 t cs →
  Calls Try.prog 40 #[.slice p t.len c,.func (Fn.func k) #[] bs] W λ e w'=>e = .returned (.tuple #[])∧St (d++flatS t) ks w'
set_option maxRecDepth 100000 in
set_option maxHeartbeats 8000000 in
theorem wlk_step {n k:Nat} {bs:Array Value} {base:Nat} {w0:World} {St:List SH→Bx→World→Prop} (hv:Vis n k bs base w0 St) {t:SL} (htw:t.wf n) (htl:t.len≤1000000) (ih:AllS (λ _ b e=>WlkC k bs base w0 St b∧WlkC k bs base w0 St e) t):WlkC k bs base w0 St t:=λ d ks W p c sc hS hr hs=>by
 obtain ⟨ln,hln⟩:∃ m,t.len=m:=⟨_,rfl⟩
 obtain ⟨R,hR⟩:∃ R,d++flatS t=R:=⟨_,rfl⟩
 have H:Hid (Vis n k bs base w0 St∧ROA (λ q=>q<base) w0 (.slice p ln c) 20 ln sc∧SF (λ q=>q<base) w0 t sc∧t.len=ln∧ln≤1000000∧d++flatS t=R∧t.wf n∧AllS (λ _ b e=>WlkC k bs base w0 St b∧WlkC k bs base w0 St e) t):=Lib.hid ⟨hv,by rw [←hln];exact hr,hs,hln,by rw [←hln];exact htl,hR,htw,ih⟩
 have HS:=Lib.hid hS
 have hE:=Lib.hid hv.ent
 rw [hln,hR]
 clear hv hr hs htl hR htw ih hS hln
 go_enter Try.func40,Try.ntmps40
 go_wp2_with fail
 go_loopw [8] (λ iv wr=>∃ (i:Nat) (r:SL) (d':List SH),iv = .int .i64 (i:Nat)∧i+r.len=ln∧SF (λ q=>q<base) w0 r (sc.drop (i*20))∧AllS (λ _ b e=>WlkC k bs base w0 St b∧WlkC k bs base w0 St e) r∧r.wf n∧d'++flatS r=R∧St d' ks wr) (λ iv _=>ln-(intOf iv).toNat)
 case atStart=>exact ⟨0,t,d,rfl,by rw [Nat.zero_add];exact H.out.2.2.2.1,by simpa using H.out.2.2.1,H.out.2.2.2.2.2.2.2,H.out.2.2.2.2.2.2.1,H.out.2.2.2.2.2.1,HS.out⟩
 case round =>
  obtain ⟨i,r,d',rfl,hil,hTr,hAl,hwf,hRr,hSt⟩:=hrel
  by_cases hlt:i<ln
  ·obtain ⟨h0,b0,e0,r0,rfl⟩:∃ h0 b0 e0 r0,r = .cons h0 b0 e0 r0:=by
    cases r with
    | nil=>simp only [SL.len] at hil;omega
    | cons h0 b0 e0 r0=>exact ⟨h0,b0,e0,r0,rfl⟩
   obtain ⟨cs0,hcl,hat,hone,hrest⟩:=sf_at hTr
   obtain ⟨op,sg,vw,pv,vn,vc,pa,ca,pi,ci,ic,pb,cb,bc,pe,ce,ec,rfl,_,_,_,hbr,hbs,her,hes⟩:=sf_one hone
   have hra:RO wr (.slice p ln c) 20 ln sc:=((MSt.ro _ _ _ _) _ (λ _=>True) _ wr (λ b hb _=>⟨trivial,(H.out.1.low hSt).block b hb⟩) H.out.2.1).ro
   obtain ⟨lb,lo20,rfl⟩:=hra.sl (hat 0 (by omega))
   obtain ⟨sk,ss,slo,swd,sas,idx,⟨vk,vhw,vs,vlo⟩,va⟩:=h0
   dsimp only at hat hbr hbs her hes hone
   have hrg:wr.rangeAt lb (lo20+i*20) [.int .i64 sk,.int .i64 0,.int .i64 0,.int .i64 0,.int .i64 ss,.int .i64 slo,.int .i64 swd,.slice pi idx.len ci,.int .i64 vk,.int .i64 op,.int .i64 vhw,.int .i64 vs,.int .i64 vlo,.bool sg,.int .i64 vw,.slice pv vn vc,.slice pa va.len ca,.slice pb b0.len cb,.slice pe e0.len ce,.int .i64 sas]:=λ j v hj=>by
    have hj20:j<20:=by have:=(List.getElem?_eq_some_iff.1 hj).1;simpa using this
    have:=hra.cell ((hat j hj20).trans hj)
    rwa [←Nat.add_assoc] at this
   have hii:(i:Int)<(ln:Int):=by omega
   have hi0:(0:Int)≤(i:Int):=by omega
   have hiw:IntKind.i64.wrap ((i:Int)+1)=((i+1:Nat):Int):=by rw [i64_of (by have:=H.out.2.2.2.2.1;omega)];rfl
   have HE:=Lib.hid (And.intro hAl (And.intro hwf (And.intro hrest (And.intro hlt (And.intro hil (And.intro hRr (And.intro hone (And.intro hbr (And.intro hbs (And.intro her hes))))))))))
   have HSt:=Lib.hid hSt
   clear hcl hat hone hrest hra hTr hAl hwf hRr hSt hil hlt hbr hbs her hes
   go_upto_region 3 with (first | (refine wpList_load_mid rfl 64 _ rfl (lb) (lo20+i*20) rfl [.int .i64 sk,.int .i64 0,.int .i64 0,.int .i64 0,.int .i64 ss,.int .i64 slo,.int .i64 swd,.slice pi idx.len ci,.int .i64 vk,.int .i64 op,.int .i64 vhw,.int .i64 vs,.int .i64 vlo,.bool sg,.int .i64 vw,.slice pv vn vc,.slice pa va.len ca,.slice pb b0.len cb,.slice pe e0.len ce,.int .i64 sas] _ hrg Try.underlying64 rfl sizeFs ?_) | (refine wpList_store_new rfl 64 _ _ rfl [.int .i64 sk,.int .i64 0,.int .i64 0,.int .i64 0,.int .i64 ss,.int .i64 slo,.int .i64 swd,.slice pi idx.len ci,.int .i64 vk,.int .i64 op,.int .i64 vhw,.int .i64 vs,.int .i64 vlo,.bool sg,.int .i64 vw,.slice pv vn vc,.slice pa va.len ca,.slice pb b0.len cb,.slice pe e0.len ce,.int .i64 sas] [.int .i64 0,.int .i64 0,.int .i64 0,.int .i64 0,.int .i64 0,.int .i64 0,.int .i64 0,.slice none 0 0,.int .i64 0,.int .i64 0,.int .i64 0,.int .i64 0,.int .i64 0,.bool false,.int .i64 0,.slice none 0 0,.slice none 0 0,.slice none 0 0,.slice none 0 0,.int .i64 0] 64 rfl rfl rfl sizeFs (by simp [Value.oneCell']) ?_))
   have HL:=Lib.hid (H.out.1.lay 64 [.int .i64 sk,.int .i64 0,.int .i64 0,.int .i64 0,.int .i64 ss,.int .i64 slo,.int .i64 swd,.slice pi idx.len ci,.int .i64 vk,.int .i64 op,.int .i64 vhw,.int .i64 vs,.int .i64 vlo,.bool sg,.int .i64 vw,.slice pv vn vc,.slice pa va.len ca,.slice pb b0.len cb,.slice pe e0.len ce,.int .i64 sas] HSt.out)
   change Hid (St d' _ (wr.alloc (.cells #[.int .i64 sk,.int .i64 0,.int .i64 0,.int .i64 0,.int .i64 ss,.int .i64 slo,.int .i64 swd,.slice pi idx.len ci,.int .i64 vk,.int .i64 op,.int .i64 vhw,.int .i64 vs,.int .i64 vlo,.bool sg,.int .i64 vw,.slice pv vn vc,.slice pa va.len ca,.slice pb b0.len cb,.slice pe e0.len ce,.int .i64 sas] 64))) at HL
   obtain ⟨xb,hxb⟩:∃ b,wr.heap.size=b:=⟨_,rfl⟩
   rw [hxb] at HL ⊢
   generalize wr.alloc (.cells #[.int .i64 sk,.int .i64 0,.int .i64 0,.int .i64 0,.int .i64 ss,.int .i64 slo,.int .i64 swd,.slice pi idx.len ci,.int .i64 vk,.int .i64 op,.int .i64 vhw,.int .i64 vs,.int .i64 vlo,.bool sg,.int .i64 vw,.slice pv vn vc,.slice pa va.len ca,.slice pb b0.len cb,.slice pe e0.len ce,.int .i64 sas] 64)=w5 at *
   clear hxb hrg HSt
   have hrg2:=(H.out.1.blk HL.out _ List.mem_cons_self).range
   go_wp2_with (refine wpList_load_mid rfl 64 _ rfl (xb) 0 rfl [.int .i64 sk,.int .i64 0,.int .i64 0,.int .i64 0,.int .i64 ss,.int .i64 slo,.int .i64 swd,.slice pi idx.len ci,.int .i64 vk,.int .i64 op,.int .i64 vhw,.int .i64 vs,.int .i64 vlo,.bool sg,.int .i64 vw,.slice pv vn vc,.slice pa va.len ca,.slice pb b0.len cb,.slice pe e0.len ce,.int .i64 sas] _ hrg2 Try.underlying64 rfl sizeFs ?_)
   rw [hE.out,Oper.upon_enter]
   refine (H.out.1.vis HL.out HE.out.2.1.1 HE.out.2.2.2.2.2.2.1).mono ?_;rintro e w6 ⟨rfl,h6⟩
   have H6:=Lib.hid h6
   clear h6 hrg2 HL
   have y17:=(H.out.1.blk H6.out _ List.mem_cons_self).cell (i:=17) rfl
   go_wp2_with fail
   refine (HE.out.1.1.1 _ _ _ _ _ _ H6.out HE.out.2.2.2.2.2.2.2.1 HE.out.2.2.2.2.2.2.2.2.1).mono ?_;rintro e w7 ⟨rfl,h7⟩
   have H7:=Lib.hid h7
   clear h7 y17 H6
   have y18:=(H.out.1.blk H7.out _ List.mem_cons_self).cell (i:=18) rfl
   go_wp2_with fail
   refine (HE.out.1.1.2 _ _ _ _ _ _ H7.out HE.out.2.2.2.2.2.2.2.2.2.1 HE.out.2.2.2.2.2.2.2.2.2.2).mono ?_;rintro e w8 ⟨rfl,h8⟩
   have H8:=Lib.hid (H.out.1.drop 1 h8)
   clear h8 y18 H7
   go_wp2_with fail
   go_roundw
   case measure=>simp [intOf];have:=HE.out.2.2.2.1;omega
   case rel =>
    refine ⟨i+1,r0,_,by go_num,by have:=HE.out.2.2.2.2.1;simp only [SL.len] at this;omega,HE.out.2.2.1,HE.out.1.2,HE.out.2.1.2.2.2.2.2,?_,H8.out⟩
    have:=HE.out.2.2.2.2.2.1
    rw [←this]
    simp only [flatS,List.append_assoc,List.cons_append,List.nil_append]
  ·obtain rfl:r = .nil:=by
    cases r with
    | nil=>rfl
    | cons h0 b0 e0 r0=>simp only [SL.len] at hil;omega
   have hii:¬(i:Int)<(ln:Int):=by simp only [SL.len] at hil;omega
   have hd:d'=R:=by simpa [flatS] using hRr
   subst hd
   have HSt:=Lib.hid hSt
   clear hlt hil hTr hAl hwf hRr hSt
   go_wp2_with fail
   go_end0
   exact ⟨rfl,HSt.out⟩
theorem wlk_all {n k:Nat} {bs:Array Value} {base:Nat} {w0:World} {St:List SH→Bx→World→Prop} (hv:Vis n k bs base w0 St):∀ {t:SL},t.wf n→AllS (λ _ b e=>WlkC k bs base w0 St b∧WlkC k bs base w0 St e) t
 | .nil,_=>trivial
 | .cons h b e r,hw=>⟨⟨wlk_step hv hw.2.2.2.1 hw.2.1 (wlk_all hv hw.2.2.2.1),wlk_step hv hw.2.2.2.2.1 hw.2.2.1 (wlk_all hv hw.2.2.2.2.1)⟩,wlk_all hv hw.2.2.2.2.2⟩
theorem wlk_any {n k:Nat} {bs:Array Value} {base:Nat} {w0:World} {St:List SH→Bx→World→Prop} (hv:Vis n k bs base w0 St) {t:SL} (hw:t.wf n) (hl:t.len≤1000000):WlkC k bs base w0 St t:=wlk_step hv hw hl (wlk_all hv hw)
structure Gth (base g:Nat) (l:List Sg) (f:SH→List Atom) (w1:World) (V0:Nat→Value) (d:List SH) (ks:Bx) (W:World):Prop where
 ex:∃ V,UsU base g w1 W V0 (addsP (sizes l) (List.replicate l.length []) (d.flatMap f)) V∧∀ x∈ks,Blk W x.1 x.2.1 x.2.2∧¬FV g V x.1
section
variable {base g:Nat} {l:List Sg} {f:SH→List Atom} {w1 W W':World} {V0:Nat→Value} {d:List SH} {ks:Bx}
theorem Gth.lay (h:Gth base g l f w1 V0 d ks W) (t:Nat) (c:List Value):Gth base g l f w1 V0 d ((W.heap.size,t,c)::ks) (W.alloc (.cells c.toArray t)):=by
 obtain ⟨V,hU,hk⟩:=h.ex
 refine ⟨V,hU.below (Below.new _ _),λ x hx => ?_⟩
 rcases List.mem_cons.1 hx with rfl | hx
 ·exact ⟨Blk.new t c,λ e=>absurd (hU.us.flt _ e).2 (Nat.lt_irrefl _)⟩
 ·exact ⟨(hk x hx).1.next (Below.new _ _),(hk x hx).2⟩
theorem Gth.drop (h:Gth base g l f w1 V0 d ks W) (j:Nat):Gth base g l f w1 V0 d (ks.drop j) W:=by
 obtain ⟨V,hU,hk⟩:=h.ex
 exact ⟨V,hU,λ x hx=>hk x (List.mem_of_mem_drop hx)⟩
theorem Gth.blk (h:Gth base g l f w1 V0 d ks W):∀ x∈ks,Blk W x.1 x.2.1 x.2.2:=by
 obtain ⟨V,hU,hk⟩:=h.ex
 exact λ x hx=>(hk x hx).1
theorem Gth.low (h:Gth base g l f w1 V0 d ks W) (h0:∀ b,FV g V0 b→base≤b) (hb:base≤w1.heap.size):Below base w1 W:=by
 obtain ⟨V,hU,hk⟩:=h.ex
 exact hU.up.lowF h0 hb
theorem Gth.step {V1 V2:Nat→Value} {u':Us} (hU:UsU base g w1 W V0 u' V1) (hk:∀ x∈ks,Blk W x.1 x.2.1 x.2.2∧¬FV g V1 x.1) {u2:Us} (h':UsU base g W W' V1 u2 V2) :
  UsU base g w1 W' V0 u2 V2∧∀ x∈ks,Blk W' x.1 x.2.1 x.2.2∧¬FV g V2 x.1:=by
 refine ⟨hU.call h',λ x hx=>⟨h'.up.blk (hk x hx).1 (hk x hx).2,λ e => ?_⟩⟩
 rcases h'.up.sub _ e with e2 | e2
 ·exact (hk x hx).2 e2
 ·have:=(hk x hx).1.lt;omega
end
theorem addsP_flat {sz:List Nat} {u:Us} {f:SH→List Atom} (d:List SH) (h:SH):addsP sz u ((d ++ [h]).flatMap f)=addsP sz (addsP sz u (d.flatMap f)) (f h):=by
 rw [List.flatMap_append,addsP_app]
 simp
structure Cap (base g:Nat) (l:List Sg) (w1:World) (V0:Nat→Value) (ub db:Nat) (p:Option Addr) (c:Nat) (rest:List Value):Prop where
 bu:Blk w1 ub 104 [usV g l.length]
 bd:Blk w1 db 38 (.slice p l.length c::rest)
 un:¬FV g V0 ub
 dn:¬FV g V0 db
 ge:∀ b,FV g V0 b→base≤b
 sz:base≤w1.heap.size
 sg:SgsM base w1 p c l
theorem Cap.wu {l:List Sg} (k:List Atom):WU (sizes l) (addsP (sizes l) (List.replicate l.length []) k):=by
 have:(sizes l).length=l.length:=by simp [sizes]
 rw [←this]
 exact (WU.none _).adds _
set_option maxRecDepth 100000 in
set_option maxHeartbeats 8000000 in
theorem read1_any {base g:Nat} {l:List Sg} {w1:World} {V0:Nat→Value} {ub db:Nat} {p:Option Addr} {c:Nat} {rest:List Value} (hC:Cap base g l w1 V0 ub db p c rest) {d:List SH} {ks:Bx} {W:World} {h:SH} {b e:SL} {cs:List Value}
  (hG:Gth base g l SH.rd w1 V0 d ks W) (hw:h.wf l.length) (hs:SF (λ q=>q<base) w1 (.cons h b e .nil) cs) :
  Calls Try.prog 41 #[.agg cs.toArray,.pointer (some ⟨ub,0,none⟩),.pointer (some ⟨db,0,none⟩)] W λ e w'=>e = .returned (.tuple #[])∧Gth base g l SH.rd w1 V0 (d ++ [h]) ks w':=by
 obtain ⟨op,sg,vw,pv,vn,vc,pa,ca,pi,ci,ic,pb,cb,bc,pe,ce,ec,rfl,hvt,hir,hit,_⟩:=sf_one hs
 obtain ⟨V,hU0,hk0⟩:=hG.ex
 obtain ⟨N,hN⟩:∃ n,l.length=n:=⟨_,rfl⟩
 obtain ⟨sk,ss,slo,swd,sas,idx,⟨vk,vhw,vs,vlo⟩,va⟩:=h
 dsimp only at hvt hir hit ⊢
 have H:=Lib.hid (And.intro hC (And.intro hvt (And.intro hir (And.intro hit (And.intro hw hN)))))
 have HS:Hid (UsU base g w1 (W.alloc (.cells #[.int .i64 sk,.int .i64 0,.int .i64 0,.int .i64 0,.int .i64 ss,.int .i64 slo,.int .i64 swd,.slice pi idx.len ci,.int .i64 vk,.int .i64 op,.int .i64 vhw,.int .i64 vs,.int .i64 vlo,.bool sg,.int .i64 vw,.slice pv vn vc,.slice pa va.len ca,.slice pb b.len cb,.slice pe e.len ce,.int .i64 sas] 64)) V0 (addsP (sizes l) (List.replicate l.length []) (d.flatMap SH.rd)) V∧∀ x∈(W.heap.size,64, [.int .i64 sk,.int .i64 0,.int .i64 0,.int .i64 0,.int .i64 ss,.int .i64 slo,.int .i64 swd,.slice pi idx.len ci,.int .i64 vk,.int .i64 op,.int .i64 vhw,.int .i64 vs,.int .i64 vlo,.bool sg,.int .i64 vw,.slice pv vn vc,.slice pa va.len ca,.slice pb b.len cb,.slice pe e.len ce,.int .i64 sas])::ks,Blk (W.alloc (.cells #[.int .i64 sk,.int .i64 0,.int .i64 0,.int .i64 0,.int .i64 ss,.int .i64 slo,.int .i64 swd,.slice pi idx.len ci,.int .i64 vk,.int .i64 op,.int .i64 vhw,.int .i64 vs,.int .i64 vlo,.bool sg,.int .i64 vw,.slice pv vn vc,.slice pa va.len ca,.slice pb b.len cb,.slice pe e.len ce,.int .i64 sas] 64)) x.1 x.2.1 x.2.2∧¬FV g V x.1):=Lib.hid ⟨hU0.below (Below.new _ _),λ x hx=>by
  rcases List.mem_cons.1 hx with rfl | hx
  ·exact ⟨Blk.new _ _,λ e=>absurd (hU0.us.flt _ e).2 (Nat.lt_irrefl _)⟩
  ·exact ⟨(hk0 x hx).1.next (Below.new _ _),(hk0 x hx).2⟩⟩
 have HX:Hid (∀ (h:TH) (a:TL) (W:World) (u:Us) (V':Nat→Value) (fc:List Value),(TL.cons h a .nil).wf l.length→UsU base g w1 W V0 u V'→WU (sizes l) u→TF (λ q=>q<base) w1 (.cons h a .nil) fc→Calls Try.prog 42 #[usV g N,.slice p N c,.agg fc.toArray] W (UaddR base g W V' (addsP (sizes l) u (atT h a)))):=Lib.hid λ h a W u V' fc h1 h2 h3 h4=>by
  have hlow:=h2.up.lowF hC.ge hC.sz
  have:=(ux_all (base:=base) (p:=p) (c:=c) h1).1 g W u V' fc h2.us h3 (hC.sg.low hlow) (h4.turn EF.stay λ b hb _=>⟨hb,hlow.block b hb⟩)
  rw [hN] at this
  exact this
 skip
 clear hvt hir hit hs hG hU0 hk0 hC hw
 go_enter Try.func41,Try.ntmps41
 go_upto_region 1 with fail
 obtain ⟨xb,hxb⟩:∃ b,W.heap.size=b:=⟨_,rfl⟩
 rw [hxb] at HS ⊢
 generalize W.alloc (.cells #[.int .i64 sk,.int .i64 0,.int .i64 0,.int .i64 0,.int .i64 ss,.int .i64 slo,.int .i64 swd,.slice pi idx.len ci,.int .i64 vk,.int .i64 op,.int .i64 vhw,.int .i64 vs,.int .i64 vlo,.bool sg,.int .i64 vw,.slice pv vn vc,.slice pa va.len ca,.slice pb b.len cb,.slice pe e.len ce,.int .i64 sas] 64)=w2 at *
 clear hxb
 have u0:=(HS.out.1.up.blk H.out.1.bu H.out.1.un).cell (i:=0) rfl
 rw [hN] at u0
 have d0:=(HS.out.1.up.blk H.out.1.bd H.out.1.dn).cell (i:=0) rfl
 rw [hN] at d0
 have hr20:=((HS.out.2 _ List.mem_cons_self).1).range
 have hrg:w2.rangeAt xb 8 [.int .i64 vk,.int .i64 op,.int .i64 vhw,.int .i64 vs,.int .i64 vlo,.bool sg,.int .i64 vw,.slice pv vn vc,.slice pa va.len ca]:=λ j v hj=>by
  have hj9:j<9:=by have:=(List.getElem?_eq_some_iff.1 hj).1;simpa using this
  have:=hr20 (8+j) v (by
   rw [←hj]
   rcases j with _ | _ | _ | _ | _ | _ | _ | _ | _ | j
   all_goals first | rfl | omega)
  rwa [Nat.zero_add] at this
 go_wp2_with (refine wpList_load_mid rfl 62 _ rfl (xb) 8 rfl [.int .i64 vk,.int .i64 op,.int .i64 vhw,.int .i64 vs,.int .i64 vlo,.bool sg,.int .i64 vw,.slice pv vn vc,.slice pa va.len ca] _ hrg Try.underlying62 rfl sizeEx ?_)
 refine (HX.out ⟨vk,vhw,vs,vlo⟩ va w2 _ V _ H.out.2.2.2.2.1.2.2.2.2.2.2.2 HS.out.1 (Cap.wu _) H.out.2.1).mono ?_;rintro e w3 ⟨rfl,V3,h3⟩
 have H3:=Lib.hid (And.intro (Gth.step HS.out.1 HS.out.2 h3).1 (And.intro (Gth.step HS.out.1 HS.out.2 h3).2 ((Cap.wu (l:=l) (d.flatMap SH.rd)).adds (atT ⟨vk,vhw,vs,vlo⟩ va))))
 clear h3 hrg hr20 u0 d0 HS
 obtain ⟨U1,hU1⟩:∃ U1,addsP (sizes l) (addsP (sizes l) (List.replicate l.length []) (d.flatMap SH.rd)) (atT ⟨vk,vhw,vs,vlo⟩ va)=U1:=⟨_,rfl⟩
 have HR:Hid (addsP (sizes l) U1 (atL idx)=addsP (sizes l) (List.replicate l.length []) ((d ++ [(⟨sk,ss,slo,swd,sas,idx,⟨vk,vhw,vs,vlo⟩,va⟩:SH)]).flatMap SH.rd)):=Lib.hid (by rw [addsP_flat,←hU1,←addsP_app];rfl)
 rw [hU1] at H3
 clear hU1
 obtain ⟨xn,hxn⟩:∃ m,idx.len=m:=⟨_,rfl⟩
 have HXn:=Lib.hid hxn
 have x7:=((H3.out.2.1 _ List.mem_cons_self).1).cell (i:=7) rfl
 dsimp only at x7
 rw [hxn] at x7
 clear hxn
 go_wp2_with fail
 go_loopw [16] (λ jv wr=>∃ (j:Nat) (r:TL) (u':Us) (V':Nat→Value),jv = .int .i64 (j:Nat)∧j+r.len=xn∧TF (λ q=>q<base) w1 r (ic.drop (j*9))∧r.wf l.length∧WU (sizes l) u'∧UsU base g w1 wr V0 u' V'∧(∀ x∈(xb,64, [.int .i64 sk,.int .i64 0,.int .i64 0,.int .i64 0,.int .i64 ss,.int .i64 slo,.int .i64 swd,.slice pi idx.len ci,.int .i64 vk,.int .i64 op,.int .i64 vhw,.int .i64 vs,.int .i64 vlo,.bool sg,.int .i64 vw,.slice pv vn vc,.slice pa va.len ca,.slice pb b.len cb,.slice pe e.len ce,.int .i64 sas])::ks,Blk wr x.1 x.2.1 x.2.2∧¬FV g V' x.1)∧addsP (sizes l) u' (atL r)=addsP (sizes l) (List.replicate l.length []) ((d ++ [(⟨sk,ss,slo,swd,sas,idx,⟨vk,vhw,vs,vlo⟩,va⟩:SH)]).flatMap SH.rd)) (λ jv _=>xn-(intOf jv).toNat)
 case atStart=>exact ⟨0,idx,U1,V3,rfl,by rw [Nat.zero_add];exact HXn.out,by simpa using H.out.2.2.2.1,H.out.2.2.2.2.1.2.2.2.2.2.2.1,H3.out.2.2,H3.out.1,H3.out.2.1,HR.out⟩
 case round =>
  obtain ⟨j,r,u',V',rfl,hjl,hTr,hrw,hwu,hU,hk,hRr⟩:=hrel
  by_cases hlt:j<xn
  ·obtain ⟨h1,b1,r1,rfl⟩:∃ h0 b0 r0,r = .cons h0 b0 r0:=by
    cases r with
    | nil=>simp only [TL.len] at hjl;omega
    | cons h0 b0 r0=>exact ⟨h0,b0,r0,rfl⟩
   obtain ⟨cs0,hcl,hat,hone,hrest⟩:=tf_at hTr
   obtain ⟨op0,sg0,vw0,pv0,vn0,vc0,pa0,ca0,ac0,rfl,_⟩:=tf_one hone
   have hlow:=hU.up.lowF H.out.1.ge H.out.1.sz
   have hra:RO wr (.slice pi idx.len ci) 9 idx.len ic:=((MSt.ro _ _ _ _) _ (λ _=>True) _ wr (λ b hb _=>⟨trivial,hlow.block b hb⟩) H.out.2.2.1).ro
   rw [HXn.out] at hra
   obtain ⟨ib,io,rfl⟩:=hra.sl (hat 0 (by omega))
   obtain ⟨k0,w0,s0,lo0⟩:=h1
   obtain ⟨an0,han0⟩:∃ n,b1.len=n:=⟨_,rfl⟩
   rw [han0] at hone hat
   dsimp only at hone hat
   have hrg:wr.rangeAt ib (io+j*9) [.int .i64 k0,.int .i64 op0,.int .i64 w0,.int .i64 s0,.int .i64 lo0,.bool sg0,.int .i64 vw0,.slice pv0 vn0 vc0,.slice pa0 an0 ca0]:=λ q v hj=>by
    have hj9:q<9:=by have:=(List.getElem?_eq_some_iff.1 hj).1;simpa using this
    have:=hra.cell ((hat q hj9).trans hj)
    rwa [←Nat.add_assoc] at this
   have hjj:(j:Int)<(xn:Int):=by omega
   have hj0:(0:Int)≤(j:Int):=by omega
   have hjw:IntKind.i64.wrap ((j:Int)+1)=((j+1:Nat):Int):=by rw [i64_of (by have:=H.out.2.2.2.2.1.2.2.2.2.2.1;have:=HXn.out;dsimp only at *;omega)];rfl
   have HE:=Lib.hid (And.intro hone (And.intro hrest (And.intro hrw (And.intro hwu (And.intro hlt (And.intro hjl hRr))))))
   have HU5:=Lib.hid (hU.below (Below.new wr (.cells #[.int .i64 k0,.int .i64 op0,.int .i64 w0,.int .i64 s0,.int .i64 lo0,.bool sg0,.int .i64 vw0,.slice pv0 vn0 vc0,.slice pa0 an0 ca0] 62)))
   have HK5:Hid (∀ x∈(wr.heap.size,62, [.int .i64 k0,.int .i64 op0,.int .i64 w0,.int .i64 s0,.int .i64 lo0,.bool sg0,.int .i64 vw0,.slice pv0 vn0 vc0,.slice pa0 an0 ca0])::(xb,64, [.int .i64 sk,.int .i64 0,.int .i64 0,.int .i64 0,.int .i64 ss,.int .i64 slo,.int .i64 swd,.slice (some ⟨ib,io,none⟩) idx.len ci,.int .i64 vk,.int .i64 op,.int .i64 vhw,.int .i64 vs,.int .i64 vlo,.bool sg,.int .i64 vw,.slice pv vn vc,.slice pa va.len ca,.slice pb b.len cb,.slice pe e.len ce,.int .i64 sas])::ks,Blk (wr.alloc (.cells #[.int .i64 k0,.int .i64 op0,.int .i64 w0,.int .i64 s0,.int .i64 lo0,.bool sg0,.int .i64 vw0,.slice pv0 vn0 vc0,.slice pa0 an0 ca0] 62)) x.1 x.2.1 x.2.2∧¬FV g V' x.1):=Lib.hid λ x hx=>by
    rcases List.mem_cons.1 hx with rfl | hx
    ·exact ⟨Blk.new _ _,λ e=>absurd (hU.us.flt _ e).2 (Nat.lt_irrefl _)⟩
    ·exact ⟨(hk x hx).1.next (Below.new _ _),(hk x hx).2⟩
   clear hat hone hrest hra hTr hrw hwu hU hk hRr hlt hjl hcl hlow han0 x7
   go_upto_region 5 with (first | (refine wpList_load_mid rfl 62 _ rfl (ib) (io+j*9) rfl [.int .i64 k0,.int .i64 op0,.int .i64 w0,.int .i64 s0,.int .i64 lo0,.bool sg0,.int .i64 vw0,.slice pv0 vn0 vc0,.slice pa0 an0 ca0] _ hrg Try.underlying62 rfl sizeEx ?_) | (refine wpList_store_new rfl 62 _ _ rfl [.int .i64 k0,.int .i64 op0,.int .i64 w0,.int .i64 s0,.int .i64 lo0,.bool sg0,.int .i64 vw0,.slice pv0 vn0 vc0,.slice pa0 an0 ca0] [.int .i64 0,.int .i64 0,.int .i64 0,.int .i64 0,.int .i64 0,.bool false,.int .i64 0,.slice none 0 0,.slice none 0 0] 62 rfl rfl rfl sizeEx (by simp [Value.oneCell']) ?_))
   change Hid (UsU base g w1 (wr.alloc (.cells #[.int .i64 k0,.int .i64 op0,.int .i64 w0,.int .i64 s0,.int .i64 lo0,.bool sg0,.int .i64 vw0,.slice pv0 vn0 vc0,.slice pa0 an0 ca0] 62)) V0 _ _) at HU5
   obtain ⟨yb,hyb⟩:∃ b,wr.heap.size=b:=⟨_,rfl⟩
   rw [hyb] at HK5 ⊢
   generalize wr.alloc (.cells #[.int .i64 k0,.int .i64 op0,.int .i64 w0,.int .i64 s0,.int .i64 lo0,.bool sg0,.int .i64 vw0,.slice pv0 vn0 vc0,.slice pa0 an0 ca0] 62)=w5 at *
   clear hyb hrg
   have u0:=(HU5.out.up.blk H.out.1.bu H.out.1.un).cell (i:=0) rfl
   rw [H.out.2.2.2.2.2] at u0
   have d0:=(HU5.out.up.blk H.out.1.bd H.out.1.dn).cell (i:=0) rfl
   rw [H.out.2.2.2.2.2] at d0
   have hr9:=((HK5.out _ List.mem_cons_self).1).range
   go_wp2_with (refine wpList_load_mid rfl 62 _ rfl (yb) 0 rfl [.int .i64 k0,.int .i64 op0,.int .i64 w0,.int .i64 s0,.int .i64 lo0,.bool sg0,.int .i64 vw0,.slice pv0 vn0 vc0,.slice pa0 an0 ca0] _ hr9 Try.underlying62 rfl sizeEx ?_)
   refine (HX.out ⟨k0,w0,s0,lo0⟩ b1 w5 _ V' _ ?_ HU5.out HE.out.2.2.2.1 HE.out.1).mono ?_
   ·have hz:=HE.out.2.2.1
    exact ⟨hz.1,hz.2.1,hz.2.2.1,hz.2.2.2.1,hz.2.2.2.2.1,hz.2.2.2.2.2.1,hz.2.2.2.2.2.2.1,hz.2.2.2.2.2.2.2.1,trivial⟩
   rintro e w6 ⟨rfl,V6,h6⟩
   have H6:=Lib.hid (Gth.step HU5.out HK5.out h6)
   clear h6 u0 d0 hr9
   go_wp2_with fail
   go_roundw
   case measure=>simp [intOf];have:=HE.out.2.2.2.2.1;omega
   case rel =>
    refine ⟨j+1,r1,_,V6,by go_num,by have:=HE.out.2.2.2.2.2.1;simp only [TL.len] at this;omega,HE.out.2.1,HE.out.2.2.1.2.2.2.2.2.2.2.2,HE.out.2.2.2.1.adds _,H6.out.1,λ x hx=>H6.out.2 x (List.mem_cons_of_mem _ hx),?_⟩
    rw [←addsP_app]
    exact HE.out.2.2.2.2.2.2
  ·obtain rfl:r = .nil:=by
    cases r with
    | nil=>rfl
    | cons h0 b0 r0=>simp only [TL.len] at hjl;omega
   have hjj:¬(j:Int)<(xn:Int):=by simp only [TL.len] at hjl;omega
   have hfin:u'=_:=hRr
   rw [hfin] at hU
   have HU:=Lib.hid (And.intro hU hk)
   clear hU hk hRr hfin hjl hTr hrw hwu hlt x7
   go_wp2_with fail
   go_end0
   exact ⟨rfl,V',HU.out.1,λ x hx=>HU.out.2 x (List.mem_cons_of_mem _ hx)⟩
def wrF (il:List Int) (h:SH):List Atom:=if il.contains (h.k:Int) then [h.wr] else []
theorem sizeTg:(Try.prog.info? 57).map (·.size)=some 4:=by kernel_rfl
set_option maxRecDepth 100000 in
set_option maxHeartbeats 8000000 in
theorem written1_any {base g:Nat} {l:List Sg} {w1:World} {V0:Nat→Value} {ub db kb:Nat} {p:Option Addr} {c:Nat} {rest:List Value} (hC:Cap base g l w1 V0 ub db p c rest) {pk:Option Addr} {nk ck:Nat} {il:List Int} (hkb:Blk w1 kb 26 [.slice pk nk ck]) (hkn:¬FV g V0 kb) (hki:ROA (λ q=>q<base) w1 (.slice pk nk ck) 1 nk (ints il)) (hnk:nk≤1000000)
  {d:List SH} {ks:Bx} {W:World} {h:SH} {b e:SL} {cs:List Value}
  (hG:Gth base g l (wrF il) w1 V0 d ks W) (hw:h.wf l.length) (hs:SF (λ q=>q<base) w1 (.cons h b e .nil) cs) :
  Calls Try.prog 43 #[.agg cs.toArray,.pointer (some ⟨kb,0,none⟩),.pointer (some ⟨ub,0,none⟩),.pointer (some ⟨db,0,none⟩)] W λ e w'=>e = .returned (.tuple #[])∧Gth base g l (wrF il) w1 V0 (d ++ [h]) ks w':=by
 obtain ⟨op,sg,vw,pv,vn,vc,pa,ca,pi,ci,ic,pb,cb,bc,pe,ce,ec,rfl,_,_,_,_⟩:=sf_one hs
 obtain ⟨V,hU0,hk0⟩:=hG.ex
 obtain ⟨N,hN⟩:∃ n,l.length=n:=⟨_,rfl⟩
 obtain ⟨sk,ss,slo,swd,sas,idx,⟨vk,vhw,vs,vlo⟩,va⟩:=h
 dsimp only
 have HK:Hid (∀ W',Below base w1 W'→Calls Try.prog 44 #[.slice pk nk ck,.int .i64 (sk:Nat)] W' λ e w'=>e = .returned (.bool (il.contains (sk:Int)))∧w'=W'):=Lib.hid λ W' hb=>hasI_any (((MSt.ro _ _ _ _) _ (λ _=>True) _ W' (λ q hq _=>⟨trivial,hb.block q hq⟩) hki).ro) hnk _
 have H:=Lib.hid (And.intro hC (And.intro hkb (And.intro hkn (And.intro hw hN))))
 have HS:Hid (UsU base g w1 (W.alloc (.cells #[.int .i64 sk,.int .i64 0,.int .i64 0,.int .i64 0,.int .i64 ss,.int .i64 slo,.int .i64 swd,.slice pi idx.len ci,.int .i64 vk,.int .i64 op,.int .i64 vhw,.int .i64 vs,.int .i64 vlo,.bool sg,.int .i64 vw,.slice pv vn vc,.slice pa va.len ca,.slice pb b.len cb,.slice pe e.len ce,.int .i64 sas] 64)) V0 (addsP (sizes l) (List.replicate l.length []) (d.flatMap (wrF il))) V∧∀ x∈(W.heap.size,64, [.int .i64 sk,.int .i64 0,.int .i64 0,.int .i64 0,.int .i64 ss,.int .i64 slo,.int .i64 swd,.slice pi idx.len ci,.int .i64 vk,.int .i64 op,.int .i64 vhw,.int .i64 vs,.int .i64 vlo,.bool sg,.int .i64 vw,.slice pv vn vc,.slice pa va.len ca,.slice pb b.len cb,.slice pe e.len ce,.int .i64 sas])::ks,Blk (W.alloc (.cells #[.int .i64 sk,.int .i64 0,.int .i64 0,.int .i64 0,.int .i64 ss,.int .i64 slo,.int .i64 swd,.slice pi idx.len ci,.int .i64 vk,.int .i64 op,.int .i64 vhw,.int .i64 vs,.int .i64 vlo,.bool sg,.int .i64 vw,.slice pv vn vc,.slice pa va.len ca,.slice pb b.len cb,.slice pe e.len ce,.int .i64 sas] 64)) x.1 x.2.1 x.2.2∧¬FV g V x.1):=Lib.hid ⟨hU0.below (Below.new _ _),λ x hx=>by
  rcases List.mem_cons.1 hx with rfl | hx
  ·exact ⟨Blk.new _ _,λ e=>absurd (hU0.us.flt _ e).2 (Nat.lt_irrefl _)⟩
  ·exact ⟨(hk0 x hx).1.next (Below.new _ _),(hk0 x hx).2⟩⟩
 have HX:Hid (∀ (W:World) (u:Us) (V':Nat→Value) (s lo wd n:Nat) (pi:Option Addr) (ci:Nat),UsU base g w1 W V0 u V'→WU (sizes l) u→s<N→lo≤1000→wd≤1000→Calls Try.prog 45 #[usV g N,.slice p N c,.agg #[.int .i64 s,.int .i64 lo,.int .i64 wd,.slice pi n ci]] W (UaddR base g W V' (addP (sizes l) u (if n=0 then ⟨s,lo,wd⟩ else ⟨s,0,1000⟩)))):=Lib.hid λ W u V' s lo wd n pi ci h2 h3 h4 h5 h6=>by
  have hlow:=h2.up.lowF hC.ge hC.sz
  have:=usets_any h2.us h3 (hC.sg.low hlow) s lo wd n pi ci (by rw [hN];exact h4) h5 h6
  rw [hN] at this
  exact this
 clear hs hG hU0 hk0 hC hw hkb hkn hki hnk
 go_enter Try.func43,Try.ntmps43
 go_upto_region 1 with fail
 obtain ⟨xb,hxb⟩:∃ b,W.heap.size=b:=⟨_,rfl⟩
 rw [hxb] at HS ⊢
 generalize W.alloc (.cells #[.int .i64 sk,.int .i64 0,.int .i64 0,.int .i64 0,.int .i64 ss,.int .i64 slo,.int .i64 swd,.slice pi idx.len ci,.int .i64 vk,.int .i64 op,.int .i64 vhw,.int .i64 vs,.int .i64 vlo,.bool sg,.int .i64 vw,.slice pv vn vc,.slice pa va.len ca,.slice pb b.len cb,.slice pe e.len ce,.int .i64 sas] 64)=w2 at *
 clear hxb
 have k0:=(HS.out.1.up.blk H.out.2.1 H.out.2.2.1).cell (i:=0) rfl
 have u0:=(HS.out.1.up.blk H.out.1.bu H.out.1.un).cell (i:=0) rfl
 rw [hN] at u0
 have d0:=(HS.out.1.up.blk H.out.1.bd H.out.1.dn).cell (i:=0) rfl
 rw [hN] at d0
 have hr20:=((HS.out.2 _ List.mem_cons_self).1).range
 have x0:=((HS.out.2 _ List.mem_cons_self).1).cell (i:=0) rfl
 dsimp only at x0
 have hrg:w2.rangeAt xb 4 [.int .i64 ss,.int .i64 slo,.int .i64 swd,.slice pi idx.len ci]:=λ j v hj=>by
  have hj4:j<4:=by have:=(List.getElem?_eq_some_iff.1 hj).1;simpa using this
  have:=hr20 (4+j) v (by
   rw [←hj]
   rcases j with _ | _ | _ | _ | j
   all_goals first | rfl | omega)
  rwa [Nat.zero_add] at this
 clear hr20
 go_wp2_with fail
 refine (HK.out w2 (HS.out.1.up.lowF H.out.1.ge H.out.1.sz)).mono ?_;rintro e w3 ⟨rfl,rfl⟩
 obtain ⟨q,hq⟩:∃ q,il.contains (sk:Int)=q:=⟨_,rfl⟩
 have HQ:=Lib.hid hq
 rw [hq]
 clear hq
 cases q
 ·go_wp2_with fail
  go_end0
  refine ⟨rfl,V,?_,λ x hx=>HS.out.2 x (List.mem_cons_of_mem _ hx)⟩
  rw [addsP_flat]
  unfold wrF
  rw [HQ.out]
  exact HS.out.1
 ·go_wp2_with (refine wpList_load_mid rfl 57 _ rfl (xb) 4 rfl [.int .i64 ss,.int .i64 slo,.int .i64 swd,.slice pi idx.len ci] _ hrg Try.underlying57 rfl sizeTg ?_)
  refine (HX.out w3 _ V ss slo swd idx.len pi ci HS.out.1 (Cap.wu _) (by have:=H.out.2.2.2.1.2.1;rw [H.out.2.2.2.2] at this;exact this) H.out.2.2.2.1.2.2.1 H.out.2.2.2.1.2.2.2.1).mono ?_;rintro e w4 ⟨rfl,V4,h4⟩
  have H4:=Lib.hid (Gth.step HS.out.1 HS.out.2 h4)
  clear h4 hrg u0 d0 x0 k0
  go_wp2_with fail
  go_end0
  refine ⟨rfl,V4,?_,λ x hx=>H4.out.2 x (List.mem_cons_of_mem _ hx)⟩
  rw [addsP_flat]
  unfold wrF
  rw [HQ.out]
  exact H4.out.1
def UsesR (w:World) (n:Nat) (u:Us) (e:Ending) (w':World):Prop:=∃ g V,e = .returned (usV g n)∧UsM w.heap.size g w' u V∧Below w.heap.size w w'
theorem fv_nil {g b:Nat}:FV g (λ _ => .slice none 0 0) b↔b=g:=by
 unfold FV
 refine ⟨λ h => ?_,λ h => .inl h⟩
 rcases h with h | ⟨k,hk⟩
 ·exact h
 ·cases hk
theorem SgsM.up {B B':Nat} {w:World} {p:Option Addr} {c:Nat} {l:List Sg} (h:SgsM B w p c l) (hb:B≤B'):SgsM B' w p c l :=
 ⟨h.ra.mono λ k hk=>Nat.lt_of_lt_of_le hk hb,h.pos,h.le,h.sz⟩
set_option maxRecDepth 100000 in
theorem mk_uses (n:Nat) (hn:n≤1000000) (w:World):(Instr.makeSlice 104 (.int .i64 n) (.int .i64 n)).run Try.prog w = .ok (.slice (some ⟨w.heap.size,0,none⟩) n n) (w.alloc (.cells ((List.range n).map λ _=>Value.slice none 0 0).toArray 73)):=by
 obtain ⟨i0,hi,hz0,hz1,hz2⟩:=info_parts infoRow
 have h:=run_make (P:=Try.prog) w 104 73 i0 _ Try.underlying104 hi hz0 .i64 .i64 n n (by omega) (by omega) (by rw [hz2];omega) (by omega)
 rw [h,hz1]
 simp only [Int.toNat_natCast,Nat.mul_one,Value.cells]
 congr 3
 apply Array.ext'
 rw [toList_madeCells_one]
 show List.replicate n (Value.slice none 0 0)=List.map (λ x=>Value.slice none 0 0) (List.range n)
 rw [List.map_const',List.length_range]
set_option maxRecDepth 100000 in
theorem mk_sure (n:Nat) (hn:n≤1000000) (w:World):(Instr.makeSlice 126 (.int .i64 n) (.int .i64 n)).run Try.prog w = .ok (.slice (some ⟨w.heap.size,0,none⟩) n n) (w.alloc (.cells ((List.range n).map λ _=>Value.slice none 0 0).toArray 73)):=by
 obtain ⟨i0,hi,hz0,hz1,hz2⟩:=info_parts infoRow
 have h:=run_make (P:=Try.prog) w 126 73 i0 _ Try.underlying126 hi hz0 .i64 .i64 n n (by omega) (by omega) (by rw [hz2];omega) (by omega)
 rw [h,hz1]
 simp only [Int.toNat_natCast,Nat.mul_one,Value.cells]
 congr 3
 apply Array.ext'
 rw [toList_madeCells_one]
 show List.replicate n (Value.slice none 0 0)=List.map (λ x=>Value.slice none 0 0) (List.range n)
 rw [List.map_const',List.length_range]
theorem wrF_flat {il:List Int} {f:Nat→Bool} (hf:∀ k:Nat,il.contains (k:Int)=f k):∀ l:List SH,l.flatMap (wrF il)=writeAts f l
 | []=>rfl
 | h::r=>by
  rw [List.flatMap_cons,wrF_flat hf r]
  unfold wrF writeAts
  rw [hf,List.filter_cons]
  cases f h.k <;> simp
set_option maxRecDepth 100000 in
set_option maxHeartbeats 4000000 in
theorem pread_any {B:Nat} {w:World} {l:List Sg} {p:Option Addr} {c:Nat} {v1 v2 v3 v4 v5 v6 kv q1 q2 q3:Value} {body:SL} {pb:Option Addr} {cb:Nat} {bc:List Value} (hB:B≤w.heap.size) (hs:SgsM B w p c l) (hw:body.wf l.length) (hl:body.len≤1000000)
  (hr:ROA (λ k=>k<B) w (.slice pb body.len cb) 20 body.len bc) (hb:SF (λ k=>k<B) w body bc) :
  Calls Try.prog 22 #[.agg #[.slice p l.length c,v1,v2,v3,v4,v5,v6],.agg #[kv,q1,q2,q3,.slice pb body.len cb]] w (UsesR w l.length (readsP (sizes l) body)):=by
 obtain ⟨N,hN⟩:∃ n,l.length=n:=⟨_,rfl⟩
 obtain ⟨n,hn⟩:∃ n,body.len=n:=⟨_,rfl⟩
 have hN1:N≤1000:=by rw [←hN];exact hs.le
 have hmk:=λ w=>mk_uses N (by omega) w
 have H:=Lib.hid (And.intro hs (And.intro hw (And.intro hl (And.intro hr (And.intro hb (And.intro hN (And.intro hn hB)))))))
 have hb1:=Below.new w (.cells #[.slice p N c,v1,v2,v3,v4,v5,v6] 38)
 have hx1:=Blk.new (w:=w) 38 [.slice p N c,v1,v2,v3,v4,v5,v6]
 have hb2:=Below.next hb1 (Below.new (w.alloc (.cells #[.slice p N c,v1,v2,v3,v4,v5,v6] 38)) (.cells #[kv,q1,q2,q3,.slice pb n cb] 49))
 have hx2:=hx1.next (Below.new (w.alloc (.cells #[.slice p N c,v1,v2,v3,v4,v5,v6] 38)) (.cells #[kv,q1,q2,q3,.slice pb n cb] 49))
 have hy2:=Blk.new (w:=w.alloc (.cells #[.slice p N c,v1,v2,v3,v4,v5,v6] 38)) 49 [kv,q1,q2,q3,.slice pb n cb]
 rw [World.size_alloc] at hy2
 have hz2:((w.alloc (.cells #[.slice p N c,v1,v2,v3,v4,v5,v6] 38)).alloc (.cells #[kv,q1,q2,q3,.slice pb n cb] 49)).heap.size=w.heap.size+2:=by simp
 have HB:=Lib.hid (And.intro hb2 (And.intro hx2 (And.intro hy2 hz2)))
 rw [hN,hn]
 clear hs hw hl hr hb hN hn hb1 hx1 hb2 hx2 hy2 hN1 hB hz2
 go_enter Try.func22,Try.ntmps22
 go_upto_region 1 with fail
 generalize (w.alloc (.cells #[.slice p N c,v1,v2,v3,v4,v5,v6] 38)).alloc (.cells #[kv,q1,q2,q3,.slice pb n cb] 49)=w2 at *
 have d0:=HB.out.2.1.cell (i:=0) rfl
 go_upto_region 2 with fail
 have hu2:=UsM.start (w:=w2) (base:=w.heap.size) N HB.out.1.size
 have hb3:=Below.new w2 (.cells ((List.range N).map λ _=>Value.slice none 0 0).toArray 73)
 have hs3:(w2.alloc (.cells ((List.range N).map λ _=>Value.slice none 0 0).toArray 73)).heap.size=w2.heap.size+1:=World.size_alloc _ _
 obtain ⟨g,hg⟩:∃ g,w2.heap.size=g:=⟨_,rfl⟩
 rw [hg] at hs3 hu2 ⊢
 generalize w2.alloc (.cells ((List.range N).map λ _=>Value.slice none 0 0).toArray 73)=w3 at *
 have hb4:=Below.next hb3 (Below.new w3 (.cells #[usV g N] 104))
 have hx4:=Blk.new (w:=w3) 104 [usV g N]
 have hu4:=hu2.below (Below.new w3 (.cells #[usV g N] 104))
 rw [hs3] at hx4
 obtain ⟨ub,hub⟩:∃ b,g+1=b:=⟨_,rfl⟩
 rw [hub] at hx4 ⊢
 change UsM _ _ (w3.alloc (.cells #[usV g N] 104)) _ _ at hu4
 generalize w3.alloc (.cells #[usV g N] 104)=w4 at *
 have hgw:g=w.heap.size+2:=by rw [←hg];exact HB.out.2.2.2
 have hbw:Below w.heap.size w w4:=HB.out.1.trans (hb4.mono HB.out.1.size)
 have hC:Cap w.heap.size g l w4 (λ _ => .slice none 0 0) ub w.heap.size p c [v1,v2,v3,v4,v5,v6] :=
  ⟨by rw [H.out.2.2.2.2.2.1];exact hx4,by rw [H.out.2.2.2.2.2.1];exact HB.out.2.1.next hb4,by rw [fv_nil];omega,by rw [fv_nil];omega,λ b hb=>by rw [fv_nil] at hb;omega,hbw.size,(H.out.1.up H.out.2.2.2.2.2.2.2).low hbw⟩
 have hV:Vis l.length 41 #[.pointer (some ⟨ub,0,none⟩),.pointer (some ⟨w.heap.size,0,none⟩)] w.heap.size w4 (Gth w.heap.size g l SH.rd w4 (λ _ => .slice none 0 0)) :=
  ⟨λ _ _=>by kernel_rfl,λ t c h=>h.lay t c,λ j h=>h.drop j,λ h=>h.blk,λ h=>h.low hC.ge hC.sz,λ hG hw hs=>read1_any hC hG hw hs⟩
 have hG0:Gth w.heap.size g l SH.rd w4 (λ _ => .slice none 0 0) [] [(ub,104, [usV g N])] w4 :=
  ⟨_,UsU.start (by rw [H.out.2.2.2.2.2.1];exact hu4),λ x hx=>by
   rcases List.mem_cons.1 hx with rfl | hx
   ·exact ⟨hx4,by rw [fv_nil];omega⟩
   ·cases hx⟩
 have hW:=wlk_any hV H.out.2.1 H.out.2.2.1 [] _ w4 pb cb bc hG0 ((MSt.ro _ _ _ _) _ _ _ w4 (λ b hb hlt=>⟨Nat.lt_of_lt_of_le hb H.out.2.2.2.2.2.2.2,hbw.block b (Nat.lt_of_lt_of_le hb H.out.2.2.2.2.2.2.2)⟩) H.out.2.2.2.1) (H.out.2.2.2.2.1.turn EF.stay (λ b hb hlt=>⟨Nat.lt_of_lt_of_le hb H.out.2.2.2.2.2.2.2,hbw.block b (Nat.lt_of_lt_of_le hb H.out.2.2.2.2.2.2.2)⟩))
 rw [H.out.2.2.2.2.2.2.1] at hW
 have HW:=Lib.hid hW
 have HC:=Lib.hid (And.intro hC hbw)
 have y4:=(HB.out.2.2.1.next hb4).cell (i:=4) rfl
 clear hb3 hs3 hu2 hb4 hx4 hu4 hgw hbw hC hV hG0 hW hg hub hmk d0
 go_wp2_with fail
 refine HW.out.mono ?_;rintro e w5 ⟨rfl,h5⟩
 have H5:=Lib.hid h5
 have u0:=(h5.blk _ List.mem_cons_self).cell (i:=0) rfl
 clear h5 y4
 go_wp2_with fail
 go_ret
 obtain ⟨V,hU,_⟩:=H5.out.ex
 refine ⟨g,V,rfl,?_,HC.out.2.trans (H5.out.low HC.out.1.ge HC.out.1.sz)⟩
 have e1:(sizes l).length=l.length:=by simp [sizes]
 unfold readsP
 rw [e1]
 exact hU.us
set_option maxRecDepth 100000 in
set_option maxHeartbeats 4000000 in
theorem pwritten_any {B:Nat} {w:World} {l:List Sg} {p:Option Addr} {c:Nat} {v1 v2 v3 v4 v5 v6 kv q1 q2 q3:Value} {body:SL} {pb:Option Addr} {cb:Nat} {bc:List Value} {pk:Option Addr} {nk ck:Nat} {il:List Int} {f:Nat→Bool} (hki:ROA (λ k=>k<w.heap.size) w (.slice pk nk ck) 1 nk (ints il)) (hnk:nk≤1000000) (hf:∀ k:Nat,il.contains (k:Int)=f k) (hB:B≤w.heap.size) (hs:SgsM B w p c l) (hw:body.wf l.length) (hl:body.len≤1000000)
  (hr:ROA (λ k=>k<B) w (.slice pb body.len cb) 20 body.len bc) (hb:SF (λ k=>k<B) w body bc) :
  Calls Try.prog 23 #[.agg #[.slice p l.length c,v1,v2,v3,v4,v5,v6],.agg #[kv,q1,q2,q3,.slice pb body.len cb],.slice pk nk ck] w (UsesR w l.length (writesP (sizes l) f body)):=by
 obtain ⟨N,hN⟩:∃ n,l.length=n:=⟨_,rfl⟩
 obtain ⟨n,hn⟩:∃ n,body.len=n:=⟨_,rfl⟩
 have hN1:N≤1000:=by rw [←hN];exact hs.le
 have hmk:=λ w=>mk_uses N (by omega) w
 have HK:=Lib.hid (And.intro hki (And.intro hnk hf))
 have H:=Lib.hid (And.intro hs (And.intro hw (And.intro hl (And.intro hr (And.intro hb (And.intro hN (And.intro hn hB)))))))
 have hb1:=Below.new w (.cells #[.slice p N c,v1,v2,v3,v4,v5,v6] 38)
 have hx1:=Blk.new (w:=w) 38 [.slice p N c,v1,v2,v3,v4,v5,v6]
 have hb2:=Below.next hb1 (Below.new (w.alloc (.cells #[.slice p N c,v1,v2,v3,v4,v5,v6] 38)) (.cells #[kv,q1,q2,q3,.slice pb n cb] 49))
 have hx2:=hx1.next (Below.new (w.alloc (.cells #[.slice p N c,v1,v2,v3,v4,v5,v6] 38)) (.cells #[kv,q1,q2,q3,.slice pb n cb] 49))
 have hy2:=Blk.new (w:=w.alloc (.cells #[.slice p N c,v1,v2,v3,v4,v5,v6] 38)) 49 [kv,q1,q2,q3,.slice pb n cb]
 rw [World.size_alloc] at hy2
 have hz2:((w.alloc (.cells #[.slice p N c,v1,v2,v3,v4,v5,v6] 38)).alloc (.cells #[kv,q1,q2,q3,.slice pb n cb] 49)).heap.size=w.heap.size+2:=by simp
 have hk3:=Blk.new (w:=(w.alloc (.cells #[.slice p N c,v1,v2,v3,v4,v5,v6] 38)).alloc (.cells #[kv,q1,q2,q3,.slice pb n cb] 49)) 26 [.slice pk nk ck]
 rw [hz2] at hk3
 have hn3:=Below.new ((w.alloc (.cells #[.slice p N c,v1,v2,v3,v4,v5,v6] 38)).alloc (.cells #[kv,q1,q2,q3,.slice pb n cb] 49)) (.cells #[.slice pk nk ck] 26)
 have hz3:(((w.alloc (.cells #[.slice p N c,v1,v2,v3,v4,v5,v6] 38)).alloc (.cells #[kv,q1,q2,q3,.slice pb n cb] 49)).alloc (.cells #[.slice pk nk ck] 26)).heap.size=w.heap.size+3:=by simp
 have HB:=Lib.hid (And.intro (Below.next hb2 hn3) (And.intro (hx2.next hn3) (And.intro (hy2.next hn3) (And.intro hz3 hk3))))
 rw [hN,hn]
 clear hs hw hl hr hb hN hn hb1 hx1 hb2 hx2 hy2 hN1 hB hz2 hk3 hn3 hz3 hki hnk hf
 go_enter Try.func23,Try.ntmps23
 go_upto_region 1 with fail
 change Hid (_∧_∧_∧_∧Blk _ (w.heap.size+1+1) _ _) at HB
 generalize ((w.alloc (.cells #[.slice p N c,v1,v2,v3,v4,v5,v6] 38)).alloc (.cells #[kv,q1,q2,q3,.slice pb n cb] 49)).alloc (.cells #[.slice pk nk ck] 26)=w2 at *
 have d0:=HB.out.2.1.cell (i:=0) rfl
 go_upto_region 2 with fail
 have hu2:=UsM.start (w:=w2) (base:=w.heap.size) N HB.out.1.size
 have hb3:=Below.new w2 (.cells ((List.range N).map λ _=>Value.slice none 0 0).toArray 73)
 have hs3:(w2.alloc (.cells ((List.range N).map λ _=>Value.slice none 0 0).toArray 73)).heap.size=w2.heap.size+1:=World.size_alloc _ _
 obtain ⟨g,hg⟩:∃ g,w2.heap.size=g:=⟨_,rfl⟩
 rw [hg] at hs3 hu2 ⊢
 generalize w2.alloc (.cells ((List.range N).map λ _=>Value.slice none 0 0).toArray 73)=w3 at *
 have hb4:=Below.next hb3 (Below.new w3 (.cells #[usV g N] 104))
 have hx4:=Blk.new (w:=w3) 104 [usV g N]
 have hu4:=hu2.below (Below.new w3 (.cells #[usV g N] 104))
 rw [hs3] at hx4
 obtain ⟨ub,hub⟩:∃ b,g+1=b:=⟨_,rfl⟩
 rw [hub] at hx4 ⊢
 change UsM _ _ (w3.alloc (.cells #[usV g N] 104)) _ _ at hu4
 generalize w3.alloc (.cells #[usV g N] 104)=w4 at *
 have hgw:g=w.heap.size+3:=by rw [←hg];exact HB.out.2.2.2.1
 have hbw:Below w.heap.size w w4:=HB.out.1.trans (hb4.mono HB.out.1.size)
 have hC:Cap w.heap.size g l w4 (λ _ => .slice none 0 0) ub w.heap.size p c [v1,v2,v3,v4,v5,v6] :=
  ⟨by rw [H.out.2.2.2.2.2.1];exact hx4,by rw [H.out.2.2.2.2.2.1];exact HB.out.2.1.next hb4,by rw [fv_nil];omega,by rw [fv_nil];omega,λ b hb=>by rw [fv_nil] at hb;omega,hbw.size,(H.out.1.up H.out.2.2.2.2.2.2.2).low hbw⟩
 have hkb:=HB.out.2.2.2.2
 have hV:Vis l.length 43 #[.pointer (some ⟨w.heap.size+1+1,0,none⟩),.pointer (some ⟨ub,0,none⟩),.pointer (some ⟨w.heap.size,0,none⟩)] w.heap.size w4 (Gth w.heap.size g l (wrF il) w4 (λ _ => .slice none 0 0)) :=
  ⟨λ _ _=>by kernel_rfl,λ t c h=>h.lay t c,λ j h=>h.drop j,λ h=>h.blk,λ h=>h.low hC.ge hC.sz,λ hG hw hs=>written1_any hC (hkb.next hb4) (by rw [fv_nil];omega) (HK.out.1.turn λ b hb hlt=>⟨hb,hbw.block b hb⟩) HK.out.2.1 hG hw hs⟩
 have hG0:Gth w.heap.size g l (wrF il) w4 (λ _ => .slice none 0 0) [] [(ub,104, [usV g N])] w4 :=
  ⟨_,UsU.start (by rw [H.out.2.2.2.2.2.1];exact hu4),λ x hx=>by
   rcases List.mem_cons.1 hx with rfl | hx
   ·exact ⟨hx4,by rw [fv_nil];omega⟩
   ·cases hx⟩
 have hW:=wlk_any hV H.out.2.1 H.out.2.2.1 [] _ w4 pb cb bc hG0 ((MSt.ro _ _ _ _) _ _ _ w4 (λ b hb hlt=>⟨Nat.lt_of_lt_of_le hb H.out.2.2.2.2.2.2.2,hbw.block b (Nat.lt_of_lt_of_le hb H.out.2.2.2.2.2.2.2)⟩) H.out.2.2.2.1) (H.out.2.2.2.2.1.turn EF.stay (λ b hb hlt=>⟨Nat.lt_of_lt_of_le hb H.out.2.2.2.2.2.2.2,hbw.block b (Nat.lt_of_lt_of_le hb H.out.2.2.2.2.2.2.2)⟩))
 rw [H.out.2.2.2.2.2.2.1] at hW
 have HW:=Lib.hid hW
 have HC:=Lib.hid (And.intro hC hbw)
 have y4:=(HB.out.2.2.1.next hb4).cell (i:=4) rfl
 clear hkb hb3 hs3 hu2 hb4 hx4 hu4 hgw hbw hC hV hG0 hW hg hub hmk d0
 go_wp2_with fail
 refine HW.out.mono ?_;rintro e w5 ⟨rfl,h5⟩
 have H5:=Lib.hid h5
 have u0:=(h5.blk _ List.mem_cons_self).cell (i:=0) rfl
 clear h5 y4
 go_wp2_with fail
 go_ret
 obtain ⟨V,hU,_⟩:=H5.out.ex
 refine ⟨g,V,rfl,?_,HC.out.2.trans (H5.out.low HC.out.1.ge HC.out.1.sz)⟩
 have e1:(sizes l).length=l.length:=by simp [sizes]
 unfold writesP
 rw [e1,←wrF_flat HK.out.2.2]
 exact hU.us
end Go.Proofs.Ytlklleaocbnbcaa
