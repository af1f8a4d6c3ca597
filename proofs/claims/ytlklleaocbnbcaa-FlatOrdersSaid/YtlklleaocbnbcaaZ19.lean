import Derived.Test.YtlklleaocbnbcaaZ15
namespace Go.Proofs.Ytlklleaocbnbcaa
set_option linter.unusedVariables false
open Go.RowKit Go.Sort
def dcells (V:DK→Value) (vi va:Value):List Value := [V .sigs,V .places,vi,V .outs,V .procs,va,V .starts]
def nameL:List Value := [.string ⟨#[105]⟩,.string ⟨#[97]⟩,.string ⟨#[98]⟩,.string ⟨#[99]⟩,.string ⟨#[100]⟩,.string ⟨#[101]⟩,.string ⟨#[102]⟩,.string ⟨#[103]⟩]
theorem MD.nn {bm n:Nat} {w W:World} {R S bs rs} (h:MD bm n w W R S bs [] rs) (n':Nat):MD bm n' w W R S bs [] rs :=
 ⟨h.eqb,h.maker,h.bel,h.mem,h.blk,h.nd,λ t ht=>(by cases ht),h.rr,h.pg,h.sr,h.st⟩
structure SgsP (l:List Sg):Prop where
 w:∀ x∈l,1≤x.w∧x.w≤8∧x.words≤8
 hd:∀ x,l[0]? = some x→x.words=0
def S0:DS:=⟨[], [],0, [], [], [], [], [],.nil, []⟩
def V0:DK→Value:=λ _ => .slice none 0 0
theorem DRof0:DRof S0 V0=λ _=>(.slice none 0 0,0, []):=by funext k;cases k <;> rfl
theorem name_at {i:Nat} (h:i<8):∃ s,nameL[i]? = some (.string s):=by
 rcases i with _ | _ | _ | _ | _ | _ | _ | _ | i
 all_goals first | exact ⟨_,rfl⟩ | omega
theorem wd_at {i:Nat} (h:i<5):∃ wd:Nat, [Value.int .i64 1,.int .i64 2,.int .i64 4,.int .i64 3,.int .i64 8][i]? = some (.int .i64 (wd:Nat))∧1≤wd∧wd≤8:=by
 rcases i with _ | _ | _ | _ | _ | i
 ·exact ⟨1,rfl,by omega⟩
 ·exact ⟨2,rfl,by omega⟩
 ·exact ⟨4,rfl,by omega⟩
 ·exact ⟨3,rfl,by omega⟩
 ·exact ⟨8,rfl,by omega⟩
 ·omega
def SL1 (l:List Sg) (pl:List Int):DS := { S0 with l:=l,pl:=pl,npl:=l.length}
theorem next2 {bm:Nat} {w:World} (h:Mk bm w):Calls Try.prog 11 #[.pointer (some ⟨bm,0,none⟩),.int .i64 2] w λ e w'=>∃ r:Nat,r<2∧e = .returned (.int .i64 r)∧Mk bm w'∧Upd (One bm) (One bm) w w':=next_any h 2 (by omega) (by omega)
theorem next5 {bm:Nat} {w:World} (h:Mk bm w):Calls Try.prog 11 #[.pointer (some ⟨bm,0,none⟩),.int .i64 5] w λ e w'=>∃ r:Nat,r<5∧e = .returned (.int .i64 r)∧Mk bm w'∧Upd (One bm) (One bm) w w':=next_any h 5 (by omega) (by omega)
theorem next16 {bm:Nat} {w:World} (h:Mk bm w):Calls Try.prog 11 #[.pointer (some ⟨bm,0,none⟩),.int .i64 16] w λ e w'=>∃ r:Nat,r<16∧e = .returned (.int .i64 r)∧Mk bm w'∧Upd (One bm) (One bm) w w':=next_any h 16 (by omega) (by omega)
theorem mono_blk5 {bm t:Nat} {tab:List Value}:(Sp.rel (λ v W=>∃ L,v = .slice (some ⟨L,0,none⟩) 5 5∧Blk W L t tab∧bm<L) (λ _ => [])).MonoM bm:=λ _ _ _ hb ⟨L,h1,h2,h3⟩=>⟨L,h1,hb.1.blk h2 (λ e=>by have e':L=bm:=e;omega),h3⟩
theorem mono_blk7 {bm t:Nat} {tab:List Value}:(Sp.rel (λ v W=>∃ L r,v = .pointer (some ⟨L,r,none⟩)∧r<5∧Blk W L t tab∧bm<L) (λ _ => [])).MonoM bm:=λ _ _ _ hb ⟨L,r,h1,h0,h2,h3⟩=>⟨L,r,h1,h0,hb.1.blk h2 (λ e=>by have e':L=bm:=e;omega),h3⟩
def bs1 (db:Nat) (V:DK→Value):Bx := [(db,31,dcells V (.slice none 0 0) (.slice none 0 0))]
def rsN (nmb:Nat):List (Value × Nat × Nat × List Value) := [(.slice (some ⟨nmb,0,none⟩) 8 8,1,8,nameL)]
theorem infoSig:(Try.prog.info? 69).map (λ i=>(i.zero,i.size,i.bytes))=some (some (.agg #[.string ⟨#[]⟩,.int .i64 0,.bool false,.int .i64 0]),4,40):=by kernel_rfl
theorem TSigs:SlTy Try.prog 24 69 4 40 (.agg #[.string ⟨#[]⟩,.int .i64 0,.bool false,.int .i64 0]):=SlTy.of Try.underlying24 infoSig rfl (by decide)
theorem infoPos:(Try.prog.info? 43).map (λ i=>(i.zero,i.size,i.bytes))=some (some (.agg #[.int .i64 0,.int .i64 0,.int .i64 0]),3,24):=by kernel_rfl
theorem TPoss:SlTy Try.prog 25 43 3 24 (.agg #[.int .i64 0,.int .i64 0,.int .i64 0]):=SlTy.of Try.underlying25 infoPos rfl (by decide)
theorem infoProc:(Try.prog.info? 72).map (λ i=>(i.zero,i.size,i.bytes))=some (some (.agg #[.int .i64 0,.int .i64 0,.int .i64 0,.int .i64 0,.slice none 0 0]),5,56):=by kernel_rfl
theorem TProcs:SlTy Try.prog 27 72 5 56 (.agg #[.int .i64 0,.int .i64 0,.int .i64 0,.int .i64 0,.slice none 0 0]):=SlTy.of Try.underlying27 infoProc rfl (by decide)
theorem infoStart:(Try.prog.info? 95).map (λ i=>(i.zero,i.size,i.bytes))=some (some (.agg #[.int .i64 0,.slice none 0 0]),2,32):=by kernel_rfl
theorem TStarts:SlTy Try.prog 29 95 2 32 (.agg #[.int .i64 0,.slice none 0 0]):=SlTy.of Try.underlying29 infoStart rfl (by decide)
theorem infoInt:(Try.prog.info? 3).map (λ i=>(i.zero,i.size,i.bytes))=some (some (.int .i64 0),1,8):=by kernel_rfl
theorem TInts:SlTy Try.prog 26 3 1 8 (.int .i64 0):=SlTy.of Try.underlying26 infoInt rfl (by decide)
theorem sizePr:(Try.prog.info? 72).map (·.size)=some 5:=by kernel_rfl
theorem next8 {bm:Nat} {w:World} (h:Mk bm w):Calls Try.prog 11 #[.pointer (some ⟨bm,0,none⟩),.int .i64 8] w λ e w'=>∃ r:Nat,r<8∧e = .returned (.int .i64 r)∧Mk bm w'∧Upd (One bm) (One bm) w w':=next_any h 8 (by omega) (by omega)
def SLn (l:List Sg) (pl:List Int) (k:Nat):DS := { S0 with l:=l,pl:=pl,npl:=k}
theorem sigCells_app (l:List Sg) (x:Sg):sigCells (l ++ [x])=sigCells l ++ [.string x.name,.int .i64 (x.w:Nat),.bool x.sg,.int .i64 (x.words:Nat)]:=by simp [sigCells]
theorem SgsP.app {l:List Sg} {x:Sg} (h:SgsP l) (hx:1≤x.w∧x.w≤8∧x.words≤8) (h0:l.length=0→x.words=0):SgsP (l ++ [x]):=by
 refine ⟨λ y hy => ?_,λ y hy => ?_⟩
 ·rcases List.mem_append.1 hy with hy | hy
  ·exact h.w y hy
  ·rw [List.mem_singleton.1 hy];exact hx
 ·cases l with
  | nil=>simp at hy;rw [←hy];exact h0 rfl
  | cons a l=>exact h.hd y (by simpa using hy)
def bsD (db:Nat) (V:DK→Value) (vi va:Value):Bx := [(db,31,dcells V vi va)]
def S2 (l:List Sg) (pl:List Int) (ps:List Pr) (pc:List Value):DS := { S0 with l:=l,pl:=pl,npl:=l.length,ps:=ps,pc:=pc}
def S3 (l:List Sg) (pl:List Int) (ps:List Pr) (pc:List Value) (body:SL) (bc:List Value):DS := { S2 l pl ps pc with body:=body,bc:=bc}
def bsP (pb kd i:Nat) (bv:Value) (db:Nat) (V:DK→Value) (b13 b14:Nat):Bx:=(pb,72, [.int .i64 kd,.int .i64 1,.int .i64 2,.int .i64 i,bv])::bsD db V (.slice (some ⟨b13,0,none⟩) 1 1) (.slice (some ⟨b14,0,none⟩) 2 2)
def S4 (l:List Sg) (pl:List Int) (ps:List Pr) (pc:List Value) (sts:List (Nat × List Bool)) (stc:List Value):DS := { S2 l pl ps pc with sts:=sts,stc:=stc}
def S5 (l:List Sg) (pl:List Int) (ps:List Pr) (pc:List Value) (sts:List (Nat × List Bool)) (stc:List Value) (ol:List Int):DS := { S4 l pl ps pc sts stc with ol:=ol}
structure StP (n:Nat) (sts:List (Nat × List Bool)):Prop where
 ok:∀ s∈sts,s.1<n∧1≤s.2.length∧s.2.length≤8
theorem StP.app {n:Nat} {sts:List (Nat × List Bool)} (h:StP n sts) {s:Nat × List Bool} (hs:s.1<n∧1≤s.2.length∧s.2.length≤8):StP n (sts ++ [s]):=⟨λ x hx=>by
 rcases List.mem_append.1 hx with hx | hx
 ·exact h.ok x hx
 ·rw [List.mem_singleton.1 hx];exact hs⟩
def strPQ:List Value := [.string ⟨#[112]⟩,.string ⟨#[113]⟩]
def rs2 (b13 b14 nmb:Nat):List (Value × Nat × Nat × List Value):=(.slice (some ⟨b14,0,none⟩) 2 2,1,2,strPQ)::(.slice (some ⟨b13,0,none⟩) 1 1,1,1, [.int .i64 0])::rsN nmb
structure PsP (n:Nat) (ps:List Pr):Prop where
 ok:∀ q∈ps,q.body.wf n∧q.body.len≤1000∧1≤q.kind∧q.kind≤3
theorem PsP.app {n:Nat} {ps:List Pr} (h:PsP n ps) {q:Pr} (h1:q.body.wf n∧q.body.len≤1000) (h2:1≤q.kind∧q.kind≤3):PsP n (ps ++ [q]):=⟨λ x hx=>by
 rcases List.mem_append.1 hx with hx | hx
 ·exact h.ok x hx
 ·rw [List.mem_singleton.1 hx];exact ⟨h1.1,h1.2,h2.1,h2.2⟩⟩
structure DesR (w:World) (l:List Sg) (ps:List Pr) (sts:List (Nat × List Bool)) (sp:Option Addr) (sc:Nat) (pl:List Int) (pL:Option Addr) (cL:Nat) (pI:Option Addr) (cI:Nat) (pP:Option Addr) (cP:Nat) (pc:List Value) (pT:Option Addr) (cT:Nat) (stc:List Value):Prop where
 des:Des w.heap.size w l ps sp sc pI 1 cI [0] pP cP pc
 pls:ROA (λ k=>k<w.heap.size) w (.slice pL l.length cL) 3 l.length (ints pl)
 str:ROA (λ k=>k<w.heap.size) w (.slice pT sts.length cT) 2 sts.length stc
 stg:StG (λ k=>k<w.heap.size) w sts stc
 sgs:Sgs l
 psP:PsP l.length ps
 plen:ps.length≤l.length
 stP:StP l.length sts
 slen:sts.length≤l.length
def MkDes (w:World) (e:Ending) (w':World):Prop :=
 ∃ (l:List Sg) (ps:List Pr) (sts:List (Nat × List Bool)) (sp:Option Addr) (sc:Nat) (pl:List Int) (pL:Option Addr) (cL:Nat) (pI:Option Addr) (cI:Nat) (pO:Option Addr) (nO cO:Nat) (pP:Option Addr) (cP:Nat) (pc:List Value) (pA:Option Addr) (nA cA:Nat) (pT:Option Addr) (cT:Nat) (stc:List Value),
  e = .returned (.agg #[.slice sp l.length sc,.slice pL l.length cL,.slice pI 1 cI,.slice pO nO cO,.slice pP ps.length cP,.slice pA nA cA,.slice pT sts.length cT])∧DesR w' l ps sts sp sc pl pL cL pI cI pP cP pc pT cT stc∧Below w.heap.size w w'
theorem upd7 (W:World) (b:Nat) (v0 v1 v2 v3 v4 v5 v6:Value):Upd (One b) (One b) W (((((((W.setCell ⟨b,0,none⟩ v0).setCell ⟨b,1,none⟩ v1).setCell ⟨b,2,none⟩ v2).setCell ⟨b,3,none⟩ v3).setCell ⟨b,4,none⟩ v4).setCell ⟨b,5,none⟩ v5).setCell ⟨b,6,none⟩ v6) :=
 ((((((upd_cell1 _).trans (upd_cell1 _)).trans (upd_cell1 _)).trans (upd_cell1 _)).trans (upd_cell1 _)).trans (upd_cell1 _)).trans (upd_cell1 _)
set_option maxRecDepth 100000 in
set_option maxHeartbeats 16000000 in
theorem make_any {w:World} {p:Option Addr} {nb c:Nat} {bl:List UInt8} (hb:ROA (λ k=>k<w.heap.size) w (.slice p nb c) 1 nb (byteCells bl)) (hl:bl.length=nb) (h400:nb≤400) :
  Calls Try.prog 5 #[.slice p nb c] w (MkDes w):=by
 have hz1:=Below.new w (.cells #[.slice none 0 0,.slice none 0 0,.slice none 0 0,.slice none 0 0,.slice none 0 0,.slice none 0 0,.slice none 0 0] 31)
 have Hb1:=Lib.hid (And.intro hz1 (And.intro hb (And.intro hl h400)))
 clear hz1 hb hl h400
 go_enter Try.func5,Try.ntmps5
 go_upto_region 1 with fail
 have HB0:Hid (Blk (w.alloc (.cells #[.slice none 0 0,.slice none 0 0,.slice none 0 0,.slice none 0 0,.slice none 0 0,.slice none 0 0,.slice none 0 0] 31)) w.heap.size 31 [.slice none 0 0,.slice none 0 0,.slice none 0 0,.slice none 0 0,.slice none 0 0,.slice none 0 0,.slice none 0 0]):=Lib.hid (Blk.new _ _)
 generalize w.alloc (.cells #[.slice none 0 0,.slice none 0 0,.slice none 0 0,.slice none 0 0,.slice none 0 0,.slice none 0 0,.slice none 0 0] 31)=w1 at *
 go_upto_region 2 with fail
 have HM_w2:Hid (MD w1.heap.size 8 w1 (w1.alloc (.cells #[.slice p nb c,.int .i64 0] 67)) (DRof S0 V0) S0 [] [] []):=Lib.hid (by
  rw [DRof0]
  refine MD.init ⟨p,nb,c,bl,0,Blk.new _ _,?_,Hb1.out.2.2.1,Nat.zero_le _,Hb1.out.2.2.2⟩ (Below.new _ _)
  refine Hb1.out.2.1.turn λ k hk _=>⟨Nat.lt_of_lt_of_le hk Hb1.out.1.size,?_⟩
  rw [(Below.new w1 _).block k (Nat.lt_of_lt_of_le hk Hb1.out.1.size),Hb1.out.1.block k hk])
 obtain ⟨bm,hbm⟩:∃ bm,w1.heap.size=bm:=⟨_,rfl⟩
 rw [hbm] at HM_w2 ⊢
 generalize w1.alloc (.cells #[.slice p nb c,.int .i64 0] 67)=w2 at *
 go_upto_region 3 with fail
 have HM_w3:Hid (MD bm 8 w1 (w2.alloc (.cells nameL.toArray 9)) (DRof S0 V0) S0 [] [] [(.slice (some ⟨w2.heap.size,0,none⟩) 8 8,1,8,nameL)]):=Lib.hid (HM_w2.out.read (Below.new _ _) (ROA.ofBlk (Blk.new 9 nameL) rfl (Nat.le_refl _)))
 generalize hnb:w2.heap.size=nmb at *
 have e3:w2.alloc (.cells #[.string ⟨#[105]⟩,.string ⟨#[97]⟩,.string ⟨#[98]⟩,.string ⟨#[99]⟩,.string ⟨#[100]⟩,.string ⟨#[101]⟩,.string ⟨#[102]⟩,.string ⟨#[103]⟩] 9)=w2.alloc (.cells nameL.toArray 9):=rfl
 generalize w2.alloc (.cells nameL.toArray 9)=w3 at *
 try rw [e3]
 clear e3 HM_w2 hnb
 go_upto_region 4 with fail
 have HM_w4:Hid (MD bm 8 w1 (w3.alloc (.cells (dcells V0 (.slice none 0 0) (.slice none 0 0)).toArray 31)) (DRof S0 V0) S0 [(w3.heap.size,31,dcells V0 (.slice none 0 0) (.slice none 0 0))] [] [(.slice (some ⟨nmb,0,none⟩) 8 8,1,8,nameL)]):=Lib.hid (HM_w3.out.lay _ _)
 have e4:w3.alloc (.cells #[.slice none 0 0,.slice none 0 0,.slice none 0 0,.slice none 0 0,.slice none 0 0,.slice none 0 0,.slice none 0 0] 31)=w3.alloc (.cells (dcells V0 (.slice none 0 0) (.slice none 0 0)).toArray 31):=rfl
 obtain ⟨db,hdb⟩:∃ db,w3.heap.size=db:=⟨_,rfl⟩
 rw [hdb] at HM_w4
 try rw [hdb]
 generalize w3.alloc (.cells (dcells V0 (.slice none 0 0) (.slice none 0 0)).toArray 31)=w4 at *
 try rw [e4]
 clear e4 HM_w3 hdb
 go_wp2_with fail
 refine (next_any HM_w4.out.maker 6 (by omega) (by omega)).mono ?_;rintro e w5 ⟨r0,hr0,rfl,hk5,hu5⟩
 have HM_w5:=Lib.hid ((HM_w4.out.call hk5 hu5));clear hk5 hu5 HM_w4
 have hr1:IntKind.i64.wrap (3+(r0:Int))=((3+r0:Nat):Int):=by rw [i64_of (by omega)];omega
 obtain ⟨N,hN⟩:∃ N,3+r0=N:=⟨_,rfl⟩
 have HN:=Lib.hid (show 3≤N∧N≤8 from ⟨by omega,by omega⟩)
 rw [hN] at hr1
 clear hr0 hN
 go_wp2_with fail
 go_loopw [7] (λ iv wr=>∃ (l:List Sg) (pl:List Int) (V:DK→Value),iv = .int .i64 (l.length:Nat)∧l.length≤N∧SgsP l∧MD bm 8 w1 wr (DRof (SL1 l pl) V) (SL1 l pl) (bs1 db V) [] (rsN nmb)) (λ iv _=>N-(intOf iv).toNat)
 case atStart=>exact ⟨[], [],V0,rfl,Nat.zero_le _,⟨λ x hx=>(by cases hx),λ x hx=>(by simp at hx)⟩,HM_w5.out⟩
 case round =>
  obtain ⟨l,pl,V,rfl,hle,hS,hM⟩:=hrel
  obtain ⟨i,hi⟩:∃ i,l.length=i:=⟨_,rfl⟩
  have HM_wr:=Lib.hid hM
  have HL:=Lib.hid (And.intro hS (And.intro hle hi))
  rw [hi] at hle ⊢
  clear hM hS hi HM_w5
  by_cases hlt:i<N
  ·have hii:(i:Int)<(N:Int):=by omega
   have hi8:(i:Int)<8:=by have:=HN.out;omega
   have hi0:(0:Int)≤(i:Int):=by omega
   obtain ⟨nm,hnm⟩:=name_at (show i<8 by have:=HN.out;omega)
   have hnc:wr.cell? ⟨nmb,0+i,none⟩=some (.string nm):=by
    obtain ⟨_,p',c',e1,_,h3⟩:=HM_wr.out.r 0 rfl
    obtain ⟨b',o',e2,_,h4⟩:=h3 i _ hnm
    rw [e2] at e1
    cases e1
    exact h4
   have hnbm:¬One bm nmb:=by
    obtain ⟨_,p',c',e1,_,h3⟩:=HM_wr.out.r 0 rfl
    obtain ⟨b',o',e2,hA,h4⟩:=h3 i _ hnm
    rw [e2] at e1
    cases e1
    exact hA.2.1
   have hrbm:¬One bm wr.heap.size:=λ e=>by have e':wr.heap.size=bm:=e;have:=HM_wr.out.maker.lt;omega
   clear hnm hle hlt
   go_upto_region 8 with fail
   rw [Nat.zero_add] at hnc
   have HTr:Hid (TrM bm wr [] wr.drew):=Lib.hid ⟨HM_wr.out.maker.below (below_drewN 1),HM_wr.out.maker.lt,Upd.below (below_drewN 1),λ p hp=>(by cases hp),λ p hp=>(by cases hp),List.nodup_nil⟩
   refine wp_region_webCM (bm:=bm) (w0:=wr) [.known (.slice (some ⟨nmb,0,none⟩) 8 8),.known (.int .i64 (i:Nat)),.known (.pointer (some ⟨nmb,i,none⟩)),.known (.string nm),.rel (λ v W=>∃ L,v = .slice (some ⟨L,0,none⟩) 5 5∧Blk W L 3 [.int .i64 1,.int .i64 2,.int .i64 4,.int .i64 3,.int .i64 8]∧bm<L) (λ _ => []),.known (.pointer (some ⟨bm,0,none⟩)),.rel (λ v _=>∃ r:Nat,r<5∧v = .int .i64 (r:Nat)) (λ _ => []),.rel (λ v W=>∃ L r,v = .pointer (some ⟨L,r,none⟩)∧r<5∧Blk W L 3 [.int .i64 1,.int .i64 2,.int .i64 4,.int .i64 3,.int .i64 8]∧bm<L) (λ _ => []),.rel (λ v _=>∃ wd:Nat,(1≤wd∧wd≤8)∧v = .int .i64 (wd:Nat)) (λ _ => []),.known (.pointer (some ⟨bm,0,none⟩)),.rel (λ v _=>∃ r:Nat,v = .int .i64 (r:Nat)) (λ _ => []),.rel (λ v _=>∃ q:Bool,v = .bool q) (λ _ => []),.rel (λ v _=>∃ (wd:Nat) (q:Bool),(1≤wd∧wd≤8)∧v = .agg #[.string nm,.int .i64 (wd:Nat),.bool q,.int .i64 0]) (λ _ => []),.box 69 [.string ⟨#[]⟩,.int .i64 0,.bool false,.int .i64 0]] [1,1,1,1,1,1,1,1,1,1,1,1,1,1] [] 48 1 #[true,true,true,true,true,true,true,true,true,true,true,true,true,true,false] (by kernel_rfl) (by kernel_rfl) rfl rfl rfl (Nat.le_of_ble_eq_true rfl) ⟨Sp.MonoM.known,Sp.MonoM.known,Sp.MonoM.known,Sp.MonoM.known,mono_blk5,Sp.MonoM.known,(λ _ _ _ _ h=>h),mono_blk7,(λ _ _ _ _ h=>h),Sp.MonoM.known,(λ _ _ _ _ h=>h),(λ _ _ _ _ h=>h),(λ _ _ _ _ h=>h),Sp.MonoM.box,trivial⟩ HTr.out (λ _ _ _ _ _ h=>h) (A := ?_) ?_ ?_ ?_
   rotate_left
   ·intro u
    simp only [fillC,Sp.val,Sp.box,Nat.reduceBEq,cond_false,Act.put,List.setIfInBounds_toArray,List.set_cons_zero,List.set_cons_succ]
    rfl
   iterate 4 (refine ob_yes (web_opM (o:=_) rfl (λ u W hT hd Q K hK => ?_)) ?_;· (have ca0:W.cell? ⟨nmb,i,none⟩=some (.string nm):=hT.bel.cell hnc hnbm;go_simp;exact hK.out _ _ (BM.refl hT.maker) rfl (λ p hp=>by cases hp) List.nodup_nil))
   refine ob_yes (web_opM (o:=_) rfl (λ u W hT hd Q K hK => ?_)) ?_
   ·(try simp only [Act.put,List.setIfInBounds_toArray,List.set_cons_zero,List.set_cons_succ] at hK)
    have ca0:W.cell? ⟨nmb,i,none⟩=some (.string nm):=hT.bel.cell hnc hnbm
    go_simp
    exact hK.out _ _ (BM.below hT.maker (Below.new _ _)) ⟨_,rfl,Blk.new _ _,hT.maker.lt⟩ (λ p hp=>by cases hp) List.nodup_nil
   (refine ob_yes (web_opM (o:=_) rfl (λ u W hT hd Q K hK => ?_)) ?_;· (have ca0:W.cell? ⟨nmb,i,none⟩=some (.string nm):=hT.bel.cell hnc hnbm;go_simp;exact hK.out _ _ (BM.refl hT.maker) rfl (λ p hp=>by cases hp) List.nodup_nil))
   refine ob_yes (web_opM (o:=_) rfl (λ u W hT hd Q K hK => ?_)) ?_
   ·(try simp only [Act.put,List.setIfInBounds_toArray,List.set_cons_zero,List.set_cons_succ] at hK)
    have ca0:W.cell? ⟨nmb,i,none⟩=some (.string nm):=hT.bel.cell hnc hnbm
    go_simp
    refine (next5 hT.maker).mono ?_;rintro e w' ⟨r,hr,rfl,hk,hu⟩
    exact hK.out _ _ ⟨hu,hk⟩ ⟨r,hr,rfl⟩ (λ p hp=>by cases hp) List.nodup_nil
   refine ob_yes (web_opM (o:=_) rfl (λ u W hT hd Q K hK => ?_)) ?_
   ·have d4:=hd 4 (by kernel_rfl)
    generalize u 4=x4 at *
    obtain ⟨L4,rfl,hB4,hL4⟩:=d4
    have d6:=hd 6 (by kernel_rfl)
    generalize u 6=x6 at *
    obtain ⟨r6,hr6,rfl⟩:=d6
    (try simp only [Act.put,List.setIfInBounds_toArray,List.set_cons_zero,List.set_cons_succ] at hK)
    have ca0:W.cell? ⟨nmb,i,none⟩=some (.string nm):=hT.bel.cell hnc hnbm
    have hri:(r6:Int)<5:=by omega
    go_simp
    exact hK.out _ _ (BM.refl hT.maker) ⟨_,_,rfl,hr6,hB4,hL4⟩ (λ p hp=>by cases hp) List.nodup_nil
   refine ob_yes (web_opM (o:=_) rfl (λ u W hT hd Q K hK => ?_)) ?_
   ·have d7:=hd 7 (by kernel_rfl)
    generalize u 7=x7 at *
    obtain ⟨L7,r7,rfl,hr7,hB7,hL7⟩:=d7
    (try simp only [Act.put,List.setIfInBounds_toArray,List.set_cons_zero,List.set_cons_succ] at hK)
    have ca0:W.cell? ⟨nmb,i,none⟩=some (.string nm):=hT.bel.cell hnc hnbm
    obtain ⟨wd,hwd⟩:=wd_at hr7
    have y7:=hB7.cell hwd.1
    go_simp
    exact hK.out _ _ (BM.refl hT.maker) ⟨_,hwd.2,rfl⟩ (λ p hp=>by cases hp) List.nodup_nil
   (refine ob_yes (web_opM (o:=_) rfl (λ u W hT hd Q K hK => ?_)) ?_;· (have ca0:W.cell? ⟨nmb,i,none⟩=some (.string nm):=hT.bel.cell hnc hnbm;go_simp;exact hK.out _ _ (BM.refl hT.maker) rfl (λ p hp=>by cases hp) List.nodup_nil))
   refine ob_yes (web_opM (o:=_) rfl (λ u W hT hd Q K hK => ?_)) ?_
   ·have d6:=hd 6 (by kernel_rfl)
    generalize u 6=x6 at *
    obtain ⟨r6,hr6,rfl⟩:=d6
    (try simp only [Act.put,List.setIfInBounds_toArray,List.set_cons_zero,List.set_cons_succ] at hK)
    have ca0:W.cell? ⟨nmb,i,none⟩=some (.string nm):=hT.bel.cell hnc hnbm
    go_simp
    refine (next2 hT.maker).mono ?_;rintro e w' ⟨r,hr,rfl,hk,hu⟩
    exact hK.out _ _ ⟨hu,hk⟩ ⟨r,rfl⟩ (λ p hp=>by cases hp) List.nodup_nil
   refine ob_yes (web_opM (o:=_) rfl (λ u W hT hd Q K hK => ?_)) ?_
   ·have d10:=hd 10 (by kernel_rfl)
    generalize u 10=x10 at *
    obtain ⟨r10,rfl⟩:=d10
    (try simp only [Act.put,List.setIfInBounds_toArray,List.set_cons_zero,List.set_cons_succ] at hK)
    have ca0:W.cell? ⟨nmb,i,none⟩=some (.string nm):=hT.bel.cell hnc hnbm
    go_simp
    exact hK.out _ _ (BM.refl hT.maker) ⟨_,rfl⟩ (λ p hp=>by cases hp) List.nodup_nil
   refine ob_yes (web_opM (o:=_) rfl (λ u W hT hd Q K hK => ?_)) ?_
   ·have d8:=hd 8 (by kernel_rfl)
    generalize u 8=x8 at *
    obtain ⟨wd8,hw8,rfl⟩:=d8
    have d11:=hd 11 (by kernel_rfl)
    generalize u 11=x11 at *
    obtain ⟨q11,rfl⟩:=d11
    (try simp only [Act.put,List.setIfInBounds_toArray,List.set_cons_zero,List.set_cons_succ] at hK)
    have ca0:W.cell? ⟨nmb,i,none⟩=some (.string nm):=hT.bel.cell hnc hnbm
    go_simp
    exact hK.out _ _ (BM.refl hT.maker) ⟨_,_,hw8,rfl⟩ (λ p hp=>by cases hp) List.nodup_nil
   refine ob_yes (web_opM (o:=_) rfl (λ u W hT hd Q K hK => ?_)) ?_
   ·(try simp only [Act.put,List.setIfInBounds_toArray,List.set_cons_zero,List.set_cons_succ] at hK)
    have ca0:W.cell? ⟨nmb,i,none⟩=some (.string nm):=hT.bel.cell hnc hnbm
    go_simp
    exact hK.out _ _ (BM.below hT.maker (Below.new _ _)) ⟨_,rfl⟩ (λ p hp=>by cases hp with | head=>exact ⟨Blk.new 69 [.string ⟨#[]⟩,.int .i64 0,.bool false,.int .i64 0],Nat.le_refl _⟩ | tail _ hp=>cases hp) (by simp [ownAt,spAt,Sp.own,Sp.box])
   exact ob_nil
   intro u wx hT hok
   obtain ⟨h0,h1,h2,h3,h4,h5,h6,h7,h8,h9,h10,h11,h12,h13,_⟩:=hok
   clear h0 h1 h2 h3 h4 h5 h6 h7 h8 h9 h10 h11
   simp only [ownsC,Sp.own,Sp.box,Nat.reduceBEq,cond_false,List.nil_append,List.append_nil,Nat.zero_add,Nat.reduceAdd] at hT
   have d12:=h12 (by kernel_rfl)
   clear h12
   generalize u 12=x12 at *
   obtain ⟨wd,sgn,hwd,rfl⟩:=d12
   have d13:=h13 (by kernel_rfl)
   clear h13
   generalize u 13=x13 at *
   obtain ⟨L13,rfl⟩:=d13
   (try dsimp only [List.nil_append,List.cons_append] at hT)
   have HTE:=Lib.hid hT
   clear hT
   refine wpAny_of_held (S:=λ _=>True) _ _ _ _ ?_
   have r0:=(HTE.out.blk _ List.mem_cons_self).cell (i:=0) rfl
   have r1:=(HTE.out.blk _ List.mem_cons_self).cell (i:=1) rfl
   have r2:=(HTE.out.blk _ List.mem_cons_self).cell (i:=2) rfl
   have r3:=(HTE.out.blk _ List.mem_cons_self).cell (i:=3) rfl
   have f0:=(HTE.out.blk _ List.mem_cons_self).frz 0
   have f1:=(HTE.out.blk _ List.mem_cons_self).frz 1
   have f2:=(HTE.out.blk _ List.mem_cons_self).frz 2
   have f3:=(HTE.out.blk _ List.mem_cons_self).frz 3
   dsimp only at r0 r1 r2 r3 f0 f1 f2 f3
   have HX6:Hid (MD bm 8 w1 ((((wx.setCell ⟨L13,0,none⟩ (.string nm)).setCell ⟨L13,1,none⟩ (.int .i64 wd)).setCell ⟨L13,2,none⟩ (.bool sgn)).setCell ⟨L13,3,none⟩ (.int .i64 0)) (DRof (SL1 l pl) V) (SL1 l pl) ((L13,69, [.string nm,.int .i64 wd,.bool sgn,.int .i64 0])::bs1 db V) [] (rsN nmb)):=Lib.hid (((((HM_wr.out.box HTE.out.maker HTE.out.bel (HTE.out.blk _ List.mem_cons_self) (HTE.out.ge _ List.mem_cons_self)).set 0 rfl 0 (.string nm)).set 0 rfl 1 (.int .i64 wd)).set 0 rfl 2 (.bool sgn)).set 0 rfl 3 (.int .i64 0))
   refine wpAnyH_ready (rs := [14]) (by kernel_rfl) (by simp) ?_
   refine held_cons rfl (λ K hK => ?_) AllReadyH.nil
   go_simp
   refine hK.out _ _ trivial (λ _ => ?_)
   clear hK K
   (try simp only [List.setIfInBounds_toArray,List.set_cons_zero,List.set_cons_succ])
   clear r0 r1 r2 r3 f0 f1 f2 f3
   refine wpAnyH_done (by kernel_rfl) ?_ _
   go_upto_region 9 with fail
   generalize ((((wx.setCell ⟨L13,0,none⟩ (.string nm)).setCell ⟨L13,1,none⟩ (.int .i64 wd)).setCell ⟨L13,2,none⟩ (.bool sgn)).setCell ⟨L13,3,none⟩ (.int .i64 0))=w8 at *
   clear HTE HTr hnc hnbm hrbm
   generalize u 4=u4 at *
   generalize u 6=u6 at *
   generalize u 7=u7 at *
   generalize u 8=u8 at *
   generalize u 10=u10 at *
   generalize u 11=u11 at *
   clear hi0 hi8
   go_cut [54] from 35 to 55 (λ v54 wx=>∃ q:Bool,v54 = .bool q∧(i=0→q=false)∧MD bm 8 w1 wx (DRof (SL1 l pl) V) (SL1 l pl) ((L13,69, [.string nm,.int .i64 wd,.bool sgn,.int .i64 0])::bs1 db V) [] (rsN nmb))
   case first =>
    by_cases h0:0<i
    ·have h0i:(0:Int)<(i:Int):=by omega
     have H0:=Lib.hid h0
     clear h0
     go_wp2_with fail
     refine (next8 HX6.out.maker).mono ?_;rintro e w9 ⟨r9,hr9,rfl,hk9,hu9⟩
     have HX9:=Lib.hid (HX6.out.call hk9 hu9);clear hk9 hu9 hr9
     go_wp2_with fail
     go_meet
     exact ⟨_,rfl,λ h=>absurd H0.out (by omega),HX9.out⟩
    ·have h0i:¬(0:Int)<(i:Int):=by omega
     clear h0
     go_wp2_with fail
     go_meet
     exact ⟨_,rfl,λ _=>rfl,HX6.out⟩
   case rest =>
    obtain ⟨q,rfl,hq0,hX⟩:=hcut
    have HXa:=Lib.hid hX
    have HQ:=Lib.hid hq0
    clear hX hq0 HX6
    go_upto_if 54 with fail
    go_cut [] from 35 to 55 (λ wx=>∃ wo:Nat,wo≤8∧(i=0→wo=0)∧MD bm 8 w1 wx (DRof (SL1 l pl) V) (SL1 l pl) ((L13,69, [.string nm,.int .i64 wd,.bool sgn,.int .i64 (wo:Nat)])::bs1 db V) [] (rsN nmb))
    case first =>
     cases q
     ·go_wp2_with fail
      go_meet
      exact ⟨0,by omega,λ _=>rfl,HXa.out⟩
     ·have r3:=(HXa.out.at 0 rfl).cell (i:=3) rfl
      have f3:=(HXa.out.at 0 rfl).frz 3
      go_wp2_with fail
      go_meet
      exact ⟨3,by omega,λ h=>absurd (HQ.out h) (by simp),HXa.out.set 0 rfl 3 _⟩
    case rest =>
     obtain ⟨wo,hwo,hwo0,hX⟩:=hcut
     have HXb:=Lib.hid hX
     have HQ:=Lib.hid (And.intro hwo hwo0)
     clear hX hwo hwo0 HXa
     obtain ⟨ps,cs,eV⟩:=ownsRow_form (HXb.out.mem.own .sigs)
     have HXc:=Lib.hid (HXb.out.lay 69 [.string nm,.int .i64 wd,.bool sgn,.int .i64 wo])
     have hoa:=HXc.out.mem.own .sigs
     simp only [DRof,SL1,S0,dkt,dks,HL.out.2.2] at hoa eV
     rw [eV] at hoa
     have hbz:w1.heap.size≤(wc.alloc (.cells #[.string nm,.int .i64 wd,.bool sgn,.int .i64 wo] 69)).heap.size:=HXc.out.bel.size
     have hnw:(wc.alloc (.cells #[.string nm,.int .i64 wd,.bool sgn,.int .i64 wo] 69)).heap[wc.heap.size]? = some (.cells #[.string nm,.int .i64 wd,.bool sgn,.int .i64 wo] 69 (0,0)):=heap_alloc_new _ _
     have d0:=(HXb.out.at 1 rfl).cell (i:=0) rfl
     rw [eV] at d0
     have c0:=(HXb.out.at 0 rfl).cell (i:=0) rfl
     have c1:=(HXb.out.at 0 rfl).cell (i:=1) rfl
     have c2:=(HXb.out.at 0 rfl).cell (i:=2) rfl
     have c3:=(HXb.out.at 0 rfl).cell (i:=3) rfl
     have hi8:i<8:=by have:=HN.out;omega
     go_upto_region 12 with (at_builtin;go_must (refine wpList_app rfl _ _ 24 rfl TSigs w1.heap.size (.slice ps i cs) i (sigCells l) rfl hoa wc.heap.size 1 1 [.string nm,.int .i64 wd,.bool sgn,.int .i64 wo] rfl #[.string nm,.int .i64 wd,.bool sgn,.int .i64 wo] hnw rfl rfl (by simp [Value.oneCell']) Nat.one_pos (by omega) (by omega) hbz ?_);intro g cap w9 happ;rw [←eV] at happ;have HX9:=Lib.hid (MD.app HXc.out .sigs happ);have d9:=(HX9.out.at 2 rfl).cell (i:=0) rfl;have df9:=(HX9.out.at 2 rfl).frz 0;clear happ)
     have eR:updZ (DRof (SL1 l pl) V) .sigs (.slice (some ⟨g,0,none⟩) (i+1) cap,i+1,sigCells l ++ [.string nm,.int .i64 wd,.bool sgn,.int .i64 wo])=DRof (SLn (l ++ [⟨nm,wd,sgn,wo⟩]) pl i) (updV V .sigs (.slice (some ⟨g,0,none⟩) (i+1) cap)):=by
      refine updZ_V _ _ _ _ _ ?_ ?_
      ·simp only [DRof,updV,SLn,S0,if_pos,sigCells_app,List.length_append,List.length_singleton,HL.out.2.2]
      ·intro k' hk'
       cases k' <;> first | exact absurd rfl hk' | (simp only [DRof,SLn,SL1,S0,HL.out.2.2])
     have HX10:Hid (MD bm 8 w1 (w9.setCell ⟨db,0,none⟩ (.slice (some ⟨g,0,none⟩) (i+1) cap)) (DRof (SLn (l ++ [⟨nm,wd,sgn,wo⟩]) pl i) (updV V .sigs (.slice (some ⟨g,0,none⟩) (i+1) cap))) (SLn (l ++ [⟨nm,wd,sgn,wo⟩]) pl i) (bs1 db (updV V .sigs (.slice (some ⟨g,0,none⟩) (i+1) cap))) [] (rsN nmb)):=Lib.hid (by
      have h:=((HX9.out.set 2 rfl 0 (.slice (some ⟨g,0,none⟩) (i+1) cap)).drop 2 0).re (l ++ [⟨nm,wd,sgn,wo⟩]) pl i []
      rw [←eR]
      exact h)
     generalize w9.setCell ⟨db,0,none⟩ (.slice (some ⟨g,0,none⟩) (i+1) cap)=w10 at *
     clear HX9 d9 df9 eR hoa hbz hnw d0 c0 c1 c2 c3 HXc HXb
     obtain ⟨V1,hV1⟩:∃ V1,updV V .sigs (.slice (some ⟨g,0,none⟩) (i+1) cap)=V1:=⟨_,rfl⟩
     obtain ⟨l1,hl1⟩:∃ l1,l ++ [⟨nm,wd,sgn,wo⟩]=l1:=⟨_,rfl⟩
     have HL1:=Lib.hid (show SgsP l1∧l1.length=i+1 from by
      rw [←hl1]
      exact ⟨HL.out.1.app ⟨hwd.1,hwd.2,HQ.out.1⟩ λ h=>HQ.out.2 (by rw [←HL.out.2.2];exact h),by rw [List.length_append,HL.out.2.2];rfl⟩)
     rw [hV1,hl1] at HX10
     clear hV1 hl1 eV HQ hwd
     obtain ⟨pp,cp,eP⟩:=ownsRow_form (HX10.out.mem.own .places)
     have HXd:=Lib.hid (HX10.out.lay 43 [.int .i64 1,.int .i64 1,.int .i64 (i+1:Nat)])
     have hoa:=HXd.out.mem.own .places
     simp only [DRof,SLn,S0,dkt,dks] at hoa eP
     rw [eP] at hoa
     have hbz:w1.heap.size≤(w10.alloc (.cells #[.int .i64 1,.int .i64 1,.int .i64 (i+1:Nat)] 43)).heap.size:=HXd.out.bel.size
     have hnw:(w10.alloc (.cells #[.int .i64 1,.int .i64 1,.int .i64 (i+1:Nat)] 43)).heap[w10.heap.size]? = some (.cells #[.int .i64 1,.int .i64 1,.int .i64 (i+1:Nat)] 43 (0,0)):=heap_alloc_new _ _
     have d1:=(HX10.out.at 0 rfl).cell (i:=1) rfl
     rw [eP] at d1
     have hiw:IntKind.i64.wrap ((i:Int)+1)=((i+1:Nat):Int):=by rw [i64_of (by omega)];rfl
     go_upto_region 7 with (at_builtin;go_must (refine wpList_app rfl _ _ 25 rfl TPoss w1.heap.size (.slice pp i cp) i (ints pl) rfl hoa w10.heap.size 1 1 [.int .i64 1,.int .i64 1,.int .i64 (i+1:Nat)] rfl #[.int .i64 1,.int .i64 1,.int .i64 (i+1:Nat)] hnw rfl rfl (by simp [Value.oneCell']) Nat.one_pos (by omega) (by omega) hbz ?_);intro g2 cap2 w11 happ;rw [←eP] at happ;have HX11:=Lib.hid (MD.app HXd.out .places happ);have d9:=(HX11.out.at 1 rfl).cell (i:=1) rfl;have df9:=(HX11.out.at 1 rfl).frz 1;clear happ)
     have eR:updZ (DRof (SLn l1 pl i) V1) .places (.slice (some ⟨g2,0,none⟩) (i+1) cap2,i+1,ints pl ++ [.int .i64 1,.int .i64 1,.int .i64 (i+1:Nat)])=DRof (SL1 l1 (pl ++ [1,1,((i+1:Nat):Int)])) (updV V1 .places (.slice (some ⟨g2,0,none⟩) (i+1) cap2)):=by
      refine updZ_V _ _ _ _ _ ?_ ?_
      ·simp only [DRof,updV,SL1,S0,if_pos,HL1.out.2];simp [ints]
      ·intro k' hk'
       cases k' <;> first | exact absurd rfl hk' | (simp only [DRof,SLn,SL1,S0])
     have HX12:Hid (MD bm 8 w1 (w11.setCell ⟨db,1,none⟩ (.slice (some ⟨g2,0,none⟩) (i+1) cap2)) (DRof (SL1 l1 (pl ++ [1,1,((i+1:Nat):Int)])) (updV V1 .places (.slice (some ⟨g2,0,none⟩) (i+1) cap2))) (SL1 l1 (pl ++ [1,1,((i+1:Nat):Int)])) (bs1 db (updV V1 .places (.slice (some ⟨g2,0,none⟩) (i+1) cap2))) [] (rsN nmb)):=Lib.hid (by
      have h:=((HX11.out.set 1 rfl 1 (.slice (some ⟨g2,0,none⟩) (i+1) cap2)).drop 1 0).re l1 (pl ++ [1,1,((i+1:Nat):Int)]) l1.length []
      rw [←eR]
      exact h)
     generalize w11.setCell ⟨db,1,none⟩ (.slice (some ⟨g2,0,none⟩) (i+1) cap2)=w12 at *
     clear HX11 d9 df9 eR hoa hbz hnw d1 HXd HX10
     go_wp2_with fail
     go_roundw
     case measure=>simp [intOf];omega
     case rel =>
      exact ⟨l1,_,_,by rw [HL1.out.2];go_num,by rw [HL1.out.2];omega,HL1.out.1,HX12.out⟩
  ·have eN:N=i:=by omega
   subst eN
   have hii:¬(N:Int)<(N:Int):=by omega
   have HLl:=Lib.hid HL.out.2.2
   clear hle hlt
   have HMr:Hid (MD bm N w1 (wr.alloc (.cells #[.int .i64 0] (3:Nat))) (DRof (SL1 l pl) V) (SL1 l pl) (bs1 db V) [] ((.slice (some ⟨wr.heap.size,0,none⟩) 1 1,1,1, [.int .i64 0])::rsN nmb)):=Lib.hid ((HM_wr.out.read (Below.new wr (.cells [.int .i64 0].toArray (3:Nat))) (ROA.ofBlk (Blk.new 3 [.int .i64 0]) rfl (Nat.le_refl _))).nn N)
   have d2:=(HMr.out.at 0 rfl).cell (i:=2) rfl
   have df2:=(HMr.out.at 0 rfl).frz 2
   go_upto_region 14 with fail
   have HMs:Hid (MD bm N w1 ((wr.alloc (.cells #[.int .i64 0] (3:Nat))).setCell ⟨db,2,none⟩ (.slice (some ⟨wr.heap.size,0,none⟩) 1 1)) (DRof (SL1 l pl) V) (SL1 l pl) (bsD db V (.slice (some ⟨wr.heap.size,0,none⟩) 1 1) (.slice none 0 0)) [] ((.slice (some ⟨wr.heap.size,0,none⟩) 1 1,1,1, [.int .i64 0])::rsN nmb)):=Lib.hid (HMr.out.set 0 rfl 2 _)
   obtain ⟨b13,hb13⟩:∃ b,wr.heap.size=b:=⟨_,rfl⟩
   rw [hb13] at HMs ⊢
   generalize (wr.alloc (.cells #[.int .i64 0] (3:Nat))).setCell ⟨db,2,none⟩ (.slice (some ⟨b13,0,none⟩) 1 1)=w13 at *
   clear d2 df2 HMr hb13 HM_wr
   have HMr:Hid (MD bm N w1 (w13.alloc (.cells strPQ.toArray (9:Nat))) (DRof (SL1 l pl) V) (SL1 l pl) (bsD db V (.slice (some ⟨b13,0,none⟩) 1 1) (.slice none 0 0)) [] (rs2 b13 w13.heap.size nmb)):=Lib.hid (HMs.out.read (Below.new w13 (.cells strPQ.toArray (9:Nat))) (ROA.ofBlk (Blk.new 9 strPQ) rfl (Nat.le_refl _)))
   have d5:=(HMr.out.at 0 rfl).cell (i:=5) rfl
   have df5:=(HMr.out.at 0 rfl).frz 5
   simp only [strPQ,List.toArray] at d5 df5
   go_upto_region 15 with fail
   have HM14:Hid (MD bm N w1 ((w13.alloc (.cells #[.string ⟨#[112]⟩,.string ⟨#[113]⟩] (9:Nat))).setCell ⟨db,5,none⟩ (.slice (some ⟨w13.heap.size,0,none⟩) 2 2)) (DRof (SL1 l pl) V) (SL1 l pl) (bsD db V (.slice (some ⟨b13,0,none⟩) 1 1) (.slice (some ⟨w13.heap.size,0,none⟩) 2 2)) [] (rs2 b13 w13.heap.size nmb)):=Lib.hid (HMr.out.set 0 rfl 5 _)
   obtain ⟨b14,hb14⟩:∃ b,w13.heap.size=b:=⟨_,rfl⟩
   rw [hb14] at HM14 ⊢
   generalize (w13.alloc (.cells #[.string ⟨#[112]⟩,.string ⟨#[113]⟩] (9:Nat))).setCell ⟨db,5,none⟩ (.slice (some ⟨b14,0,none⟩) 2 2)=w14 at *
   clear d5 df5 HMr HMs hb14
   have HN2:=HN
   have HS:Hid (Sgs l):=Lib.hid ⟨by rw [HLl.out];have:=HN.out;omega,by rw [HLl.out];exact HN.out.2,HL.out.1.w,HL.out.1.hd⟩
   clear HL hii
   go_wp2_with fail
   go_loopw [9] (λ iv wr=>∃ (i:Nat) (ps:List Pr) (pc:List Value) (V:DK→Value),iv = .int .i64 (i:Nat)∧1≤i∧i≤N∧PsP N ps∧ps.length≤i∧MD bm N w1 wr (DRof (S2 l pl ps pc) V) (S2 l pl ps pc) (bsD db V (.slice (some ⟨b13,0,none⟩) 1 1) (.slice (some ⟨b14,0,none⟩) 2 2)) [] (rs2 b13 b14 nmb)) (λ iv _=>N-(intOf iv).toNat)
   case atStart=>exact ⟨1, [], [],V,rfl,Nat.le_refl _,by have:=HN.out;omega,⟨λ q hq=>(by cases hq)⟩,Nat.zero_le _,HM14.out⟩
   case round =>
    obtain ⟨i,ps,pc,V,rfl,hi1,hiN,hPs,hpl,hM⟩:=hrel
    have HM_wr:=Lib.hid hM
    have HP:=Lib.hid (And.intro hPs (And.intro hpl (And.intro hi1 hiN)))
    clear hM hPs hpl HM14
    by_cases hlt:i<N
    ·have hii:(i:Int)<(N:Int):=by omega
     have HI:=Lib.hid hlt
     clear hlt hi1 hiN
     go_wp2_with fail
     refine (next_any HM_wr.out.maker 3 (by omega) (by omega)).mono ?_;rintro e w2 ⟨r,hr,rfl,hk2,hu2⟩
     have HM_w2:=Lib.hid (HM_wr.out.call hk2 hu2);clear hk2 hu2 HM_wr
     have hkw:IntKind.i64.wrap (1+(r:Int))=((1+r:Nat):Int):=by rw [i64_of (by omega)];omega
     obtain ⟨kd,hkd⟩:∃ kd,1+r=kd:=⟨_,rfl⟩
     have HK:=Lib.hid (show 1≤kd∧kd≤3 from ⟨by omega,by omega⟩)
     rw [hkd] at hkw
     clear hr hkd
     go_upto_region 18 with fail
     have HM_w3:Hid (MD bm N w1 (w2.alloc (.cells #[.int .i64 kd,.int .i64 1,.int .i64 2,.int .i64 i,.slice none 0 0] (72:Nat))) (DRof (S2 l pl ps pc) V) (S2 l pl ps pc) ((w2.heap.size,72, [.int .i64 kd,.int .i64 1,.int .i64 2,.int .i64 i,.slice none 0 0])::bsD db V (.slice (some ⟨b13,0,none⟩) 1 1) (.slice (some ⟨b14,0,none⟩) 2 2)) [] (rs2 b13 b14 nmb)):=Lib.hid (HM_w2.out.lay _ _)
     obtain ⟨pb,hpb⟩:∃ pb,w2.heap.size=pb:=⟨_,rfl⟩
     rw [hpb] at HM_w3 ⊢
     generalize w2.alloc (.cells #[.int .i64 kd,.int .i64 1,.int .i64 2,.int .i64 i,.slice none 0 0] (72:Nat))=w3 at *
     clear hpb HM_w2
     have hiw:IntKind.i64.wrap ((i:Int)+1)=((i+1:Nat):Int):=by rw [i64_of (by have:=HI.out;have:=HN.out;omega)];rfl
     obtain ⟨t0,ht0⟩:∃ t0,i+1=t0:=⟨_,rfl⟩
     have HT0:=Lib.hid ht0
     rw [ht0] at hiw
     clear ht0
     go_upto_region 19 with fail
     have p0:=(HM_w3.out.at 0 rfl).cell (i:=0) rfl
     go_cut [92] from 77 to 93 (λ v wx=>v = .bool (decide (kd≠1) && decide (t0<N))∧wx=w3)
     case first =>
      by_cases hk:kd=1
      ·have hkb:(kd:Int)=1:=by omega
       have HKk:=Lib.hid hk
       clear hk
       go_wp2_with fail
       go_meet
       exact ⟨by simp [HKk.out],rfl⟩
      ·have hkb:¬(kd:Int)=1:=by omega
       have HKk:=Lib.hid hk
       clear hk
       by_cases hn:t0<N
       ·have hni:(t0:Int)<(N:Int):=by omega
        have HNn:=Lib.hid hn
        clear hn
        go_wp2_with fail
        go_meet
        exact ⟨by simp [HKk.out,HNn.out] <;> omega,rfl⟩
       ·have hni:¬(t0:Int)<(N:Int):=by omega
        have HNn:=Lib.hid hn
        clear hn
        go_wp2_with fail
        go_meet
        exact ⟨by simp [HKk.out,HNn.out] <;> omega,rfl⟩
     case rest =>
      obtain ⟨rfl,hwc⟩:=hcut
      have hwc2:=hwc.symm;clear hwc;subst hwc2
      obtain ⟨q,hq⟩:∃ q,(decide (kd≠1) && decide (t0<N))=q:=⟨_,rfl⟩
      rw [hq]
      have HQ:=Lib.hid hq
      clear hq p0
      go_upto_if 92 with fail
      go_cut [11] from 77 to 97 (λ v wx=>∃ t:Nat,v = .int .i64 (t:Nat)∧i<t∧t≤N∧MD bm N w1 wx (DRof (S2 l pl ps pc) V) (S2 l pl ps pc) ((pb,72, [.int .i64 kd,.int .i64 1,.int .i64 2,.int .i64 i,.slice none 0 0])::bsD db V (.slice (some ⟨b13,0,none⟩) 1 1) (.slice (some ⟨b14,0,none⟩) 2 2)) [] (rs2 b13 b14 nmb))
      case first =>
       cases q with
       | false =>
        go_wp2_with fail
        go_meet
        exact ⟨t0,rfl,by have:=HT0.out;omega,by have:=HT0.out;have:=HI.out;omega,HM_w3.out⟩
       | true =>
        go_wp2_with fail
        refine (next2 HM_w3.out.maker).mono ?_;rintro e w4' ⟨r4,hr4,rfl,hk4,hu4⟩
        have HM_w4:=Lib.hid (HM_w3.out.call hk4 hu4);clear hk4 hu4
        have htw:IntKind.i64.wrap ((t0:Int)+(r4:Int))=((t0+r4:Nat):Int):=by rw [i64_of (by have:=HT0.out;have:=HI.out;have:=HN.out;omega)];rfl
        obtain ⟨t1,ht1⟩:∃ t1,t0+r4=t1:=⟨_,rfl⟩
        have HT1:=Lib.hid (And.intro ht1 hr4)
        rw [ht1] at htw
        clear ht1 hr4
        go_wp2_with fail
        go_meet
        exact ⟨t1,rfl,by have:=HT0.out;have:=HT1.out;omega,by have h1:=HQ.out;have h2:=HT1.out;simp only [Bool.and_eq_true,decide_eq_true_eq] at h1;omega,HM_w4.out⟩
      case rest =>
       obtain ⟨t,rfl,hit,htN,hX⟩:=hcut
       have HM_a:=Lib.hid hX
       have HT:=Lib.hid (And.intro hit htN)
       clear hX hit htN HM_w3 HQ HT0 hiw
       go_wp2_with fail
       refine (next_any HM_a.out.maker 30 (by omega) (by omega)).mono ?_;rintro e w5' ⟨r5,hr5,rfl,hk5,hu5⟩
       have HM_b:=Lib.hid (HM_a.out.call hk5 hu5);clear hk5 hu5 HM_a hr5
       go_upto_if 100 with fail
       go_cut [12] from 97 to 101 (λ v wx=>∃ low:Nat,v = .int .i64 (low:Nat)∧low<t∧MD bm N w1 wx (DRof (S2 l pl ps pc) V) (S2 l pl ps pc) ((pb,72, [.int .i64 kd,.int .i64 1,.int .i64 2,.int .i64 i,.slice none 0 0])::bsD db V (.slice (some ⟨b13,0,none⟩) 1 1) (.slice (some ⟨b14,0,none⟩) 2 2)) [] (rs2 b13 b14 nmb))
       case first =>
        by_cases hf:r5=29
        ·subst hf
         go_wp2_with fail
         go_meet
         exact ⟨0,rfl,by have:=HT.out;omega,HM_b.out⟩
        ·have hfi:((r5:Int) == 29)=false:=by simp;omega
         clear hf
         go_wp2_with fail
         go_meet
         exact ⟨i,rfl,HT.out.1,HM_b.out⟩
       case rest =>
        obtain ⟨low,rfl,hlow,hX⟩:=hcut
        have HM_a:Hid (MD bm N w1 wc (DRof (S3 l pl ps pc .nil []) (updV V .body (.slice none 0 0))) (S3 l pl ps pc .nil []) ((bsP pb kd i (.slice none 0 0) db V b13 b14)) [] (rs2 b13 b14 nmb)):=Lib.hid hX.noBody
        have HLo:=Lib.hid hlow
        obtain ⟨sp,sc,eS⟩:∃ sp sc,V .sigs = .slice sp N sc:=by
         obtain ⟨sp,sc,e⟩:=ownsRow_form (HM_a.out.mem.own .sigs)
         exact ⟨sp,sc,by rw [←HLl.out];exact e⟩
        clear hX hlow HM_b
        have HE:Hid (∀ (m:Nat) (W:World) (q:Nat),1≤m→m≤N→1≤q→q≤8→Mk bm W→ROA (λ b=>b≠bm) W (.slice sp N sc) 4 N (sigCells l)→Calls Try.prog 12 #[.pointer (some ⟨bm,0,none⟩),.slice sp m sc,.int .i64 q,.int .i64 3] W (MakeR bm N W)):=Lib.hid λ m W q h1 h2 h3 h4 hk hr=>by
         have hl:(l.take m).length=m:=by rw [List.length_take,HLl.out];omega
         have:=mexpr_any (bm:=bm) (n:=N) (c:=sc) (p:=sp) (HS.out.take h1 (by rw [HLl.out];exact h2)) (by rw [hl];exact h2) HN.out.2 3 (by omega) (by omega) W q h3 h4 hk
         rw [hl] at this
         refine this ?_
         have h5:=sig_take (A:=λ b=>b≠bm) (w:=W) (p:=sp) (c:=sc) (l:=l) (by rw [HLl.out];exact hr) m (by rw [HLl.out];exact h2)
         rw [hl] at h5
         exact h5
        have HSt:Hid (∀ (m:Nat) (W:World),1≤m→m≤N→t≤m→Mk bm W→ROA (λ b=>b≠bm) W (.slice sp N sc) 4 N (sigCells l)→Calls Try.prog 13 #[.pointer (some ⟨bm,0,none⟩),.slice sp m sc,.int .i64 kd,.int .i64 low,.int .i64 t,.int .i64 3] W (StR bm N W)):=Lib.hid λ m W h1 h2 h3 hk hr=>by
         have hl:(l.take m).length=m:=by rw [List.length_take,HLl.out];omega
         have:=mstmts_any (bm:=bm) (n:=N) (c:=sc) (p:=sp) (HS.out.take h1 (by rw [HLl.out];exact h2)) (by rw [hl];exact h2) HN.out.2 kd low t HK.out HLo.out (by rw [hl];exact h3) 3 (by omega) (by omega) W hk
         rw [hl] at this
         refine this ?_
         have h5:=sig_take (A:=λ b=>b≠bm) (w:=W) (p:=sp) (c:=sc) (l:=l) (by rw [HLl.out];exact hr) m (by rw [HLl.out];exact h2)
         rw [hl] at h5
         exact h5
        have p0:=(HM_a.out.at 0 rfl).cell (i:=0) rfl
        go_upto_if 103 with fail
        clear p0
        go_cut [] from 101 to 104 (λ wx=>∃ (body:SL) (bc:List Value) (bp:Option Addr) (bl bcap:Nat),body.wf N∧body.len≤1000∧MD bm N w1 wx (DRof (S3 l pl ps pc body bc) (updV V .body (.slice bp bl bcap))) (S3 l pl ps pc body bc) ((bsP pb kd i (.slice bp bl bcap) db V b13 b14)) [] (rs2 b13 b14 nmb))
        case first =>
         by_cases hk3:kd=3
         ·subst hk3
          have p0:=(HM_a.out.at 0 rfl).cell (i:=0) rfl
          have d0:=(HM_a.out.at 1 rfl).cell (i:=0) rfl
          rw [eS] at d0
          go_wp2_with fail
          refine (HSt.out N _ (by have:=HN.out;omega) (Nat.le_refl _) HT.out.2 HM_a.out.maker (HM_a.out.sgs eS HLl.out)).mono ?_;rintro e w7 ⟨st,sp9,sc9,scs,rfl,hO,hS,hW,hL,hk9,hu9⟩
          have HM_b:Hid (MD bm N w1 w7 (DRof (S3 l pl ps pc st scs) (updV V .body (.slice sp9 st.len sc9))) (S3 l pl ps pc st scs) ((bsP pb 3 i (.slice none 0 0) db V b13 b14)) [] (rs2 b13 b14 nmb)):=Lib.hid (by
           have h:=HM_a.out.bodySet hk9 hu9 hO hS
           rw [updV_twice] at h
           exact h)
          have HSt9:=Lib.hid (And.intro hW hL)
          clear hO hS hW hL hk9 hu9 d0 p0 HM_a
          have q4:=(HM_b.out.at 0 rfl).cell (i:=4) rfl
          have q4f:=(HM_b.out.at 0 rfl).frz 4
          go_upto_region 36 with fail
          have HM_c:Hid (MD bm N w1 (w7.setCell ⟨pb,4,none⟩ (.slice sp9 st.len sc9)) (DRof (S3 l pl ps pc st scs) (updV V .body (.slice sp9 st.len sc9))) (S3 l pl ps pc st scs) ((bsP pb 3 i (.slice sp9 st.len sc9) db V b13 b14)) [] (rs2 b13 b14 nmb)):=Lib.hid (HM_b.out.set 0 rfl 4 _)
          generalize w7.setCell ⟨pb,4,none⟩ (.slice sp9 st.len sc9)=w8 at *
          clear q4 q4f HM_b
          obtain ⟨n8,hn8⟩:∃ v,st.len=v:=⟨_,rfl⟩
          rw [hn8] at HM_c
          clear hn8
          obtain ⟨pL,nL,cL,eL⟩:∃ p n c,V .places = .slice p n c:=by
           obtain ⟨p,c,e⟩:=ownsRow_form (HM_c.out.mem.own .places)
           exact ⟨p,_,c,e⟩
          obtain ⟨pO,nO,cO,eO⟩:∃ p n c,V .outs = .slice p n c:=by
           obtain ⟨p,c,e⟩:=ownsRow_form (HM_c.out.mem.own .outs)
           exact ⟨p,_,c,e⟩
          obtain ⟨pP,nP,cP,eP⟩:∃ p n c,V .procs = .slice p n c:=by
           obtain ⟨p,c,e⟩:=ownsRow_form (HM_c.out.mem.own .procs)
           exact ⟨p,_,c,e⟩
          obtain ⟨pT,nT,cT,eT⟩:∃ p n c,V .starts = .slice p n c:=by
           obtain ⟨p,c,e⟩:=ownsRow_form (HM_c.out.mem.own .starts)
           exact ⟨p,_,c,e⟩
          go_wp2_with fail
          go_loopw [16] (λ kv wr=>∃ (k:Nat) (body:SL) (bc:List Value) (bv:Value),kv = .int .i64 (k:Nat)∧low≤k∧k≤t∧body.wf N∧body.len≤3+k∧MD bm N w1 wr (DRof (S3 l pl ps pc body bc) (updV V .body (bv))) (S3 l pl ps pc body bc) ((bsP pb 3 i (bv) db V b13 b14)) [] (rs2 b13 b14 nmb)) (λ kv _=>t-(intOf kv).toNat)
          case atStart=>exact ⟨low,st,scs,.slice sp9 n8 sc9,rfl,Nat.le_refl _,Nat.le_of_lt HLo.out,HSt9.out.1,by have:=HSt9.out.2;omega,HM_c.out⟩
          case round =>
           obtain ⟨k,body,bc,bv,rfl,hlk,hkt,hbw,hbl,hX⟩:=hrel
           have HM_d:=Lib.hid hX
           have HB:=Lib.hid (And.intro hbw (And.intro hbl (And.intro hlk hkt)))
           clear hX hlk hbw hbl HM_c
           obtain ⟨vp9,vc9,eb9⟩:∃ p c,bv = .slice p body.len c:=ownsRow_form (HM_d.out.mem.own .body)
           subst eb9
           by_cases hlt:k<t
           ·have hki:(k:Int)<(t:Int):=by omega
            have HKt:=Lib.hid hlt
            have hkN:(k:Int)<(N:Int):=by have:=HT.out;omega
            have hk0:(0:Int)≤(k:Int):=by omega
            have hB8:body.len≤1000000:=by have h1:=HB.out.2.1;have h3:=HT.out.2;have h4:=HN.out.2;omega
            have HWr:Hid (∀ W,MD bm N w1 W (DRof (S3 l pl ps pc body bc) (updV V .body (.slice vp9 body.len vc9))) (S3 l pl ps pc body bc) (bsP pb 3 i (.slice vp9 body.len vc9) db V b13 b14) [] (rs2 b13 b14 nmb)→Calls Try.prog 15 #[.agg #[.slice sp N sc,.slice pL nL cL,.slice (some ⟨b13,0,none⟩) 1 1,.slice pO nO cO,.slice pP nP cP,.slice (some ⟨b14,0,none⟩) 2 2,.slice pT nT cT],.agg #[.int .i64 (3:Nat),.int .i64 1,.int .i64 2,.int .i64 i,.slice vp9 body.len vc9]] W (UseR W N (writesP (sizes l) kAll body))):=Lib.hid λ W h=>by
             have hs:SgsM W.heap.size W sp sc l:=⟨by rw [HLl.out];exact h.sgsB eS HLl.out,HS.out.pos,by have:=HS.out.le;omega,λ x hx=>by have:=HS.out.w x hx;unfold Sg.size;split <;> omega⟩
             have:=writes_any (v1 := .slice pL nL cL) (v2 := .slice (some ⟨b13,0,none⟩) 1 1) (v3 := .slice pO nO cO) (v4 := .slice pP nP cP) (v5 := .slice (some ⟨b14,0,none⟩) 2 2) (v6 := .slice pT nT cT) (kv := .int .i64 (3:Nat)) (q1 := .int .i64 1) (q2 := .int .i64 2) (q3 := .int .i64 i) (Nat.le_refl W.heap.size) hs (by rw [HLl.out];exact HB.out.1) hB8 (h.rowB .body) (h.sr.turn ER.stay λ b _ hl=>⟨hl,rfl⟩)
             rw [HLl.out] at this
             exact this
            have HWl:=Lib.hid (show (writesP (sizes l) kAll body).length=N by rw [writesP_len,sizes,List.length_map,HLl.out])
            have HkN:=Lib.hid (show k<N by have:=HT.out;omega)
            have d0:=(HM_d.out.at 1 rfl).cell (i:=0) rfl
            rw [eS] at d0
            have d1:=(HM_d.out.at 1 rfl).cell (i:=1) rfl
            rw [eL] at d1
            have d2:=(HM_d.out.at 1 rfl).cell (i:=2) rfl
            have d3:=(HM_d.out.at 1 rfl).cell (i:=3) rfl
            rw [eO] at d3
            have d4:=(HM_d.out.at 1 rfl).cell (i:=4) rfl
            rw [eP] at d4
            have d5:=(HM_d.out.at 1 rfl).cell (i:=5) rfl
            have d6:=(HM_d.out.at 1 rfl).cell (i:=6) rfl
            rw [eT] at d6
            have p0:=(HM_d.out.at 0 rfl).cell (i:=0) rfl
            have p1:=(HM_d.out.at 0 rfl).cell (i:=1) rfl
            have p2:=(HM_d.out.at 0 rfl).cell (i:=2) rfl
            have p3:=(HM_d.out.at 0 rfl).cell (i:=3) rfl
            have p4:=(HM_d.out.at 0 rfl).cell (i:=4) rfl
            clear hlt hkt
            go_wp2_with fail
            refine (HWr.out _ HM_d.out).mono ?_;rintro e w9 ⟨gu,Vu,bu,rfl,hgu,hU,hb9⟩
            have HM_e:=Lib.hid (HM_d.out.below hb9);have HU:=Lib.hid hU;clear hb9 hgu hU HM_d d0 d1 d2 d3 d4 d5 d6 p0 p1 p2 p3 p4
            go_wp2_with fail
            refine (has_any HU.out HWl.out HkN.out).mono ?_;rintro e w10 ⟨rfl,hb9⟩
            have HM_f:=Lib.hid (HM_e.out.below hb9);clear hb9 HM_e HU
            obtain ⟨q,hq⟩:∃ q,decide (0<((writesP (sizes l) kAll body).getD k []).length)=q:=⟨_,rfl⟩
            rw [hq]
            clear hq
            cases q
            ·have d0:=(HM_f.out.at 1 rfl).cell (i:=0) rfl
             rw [eS] at d0
             obtain ⟨x,hx⟩:∃ x,l[k]? = some x:=⟨_,List.getElem?_eq_getElem (by rw [HLl.out];exact HkN.out)⟩
             have HTg:Hid (∀ W,Mk bm W→ROA (λ b=>b≠bm) W (.slice sp N sc) 4 N (sigCells l)→Calls Try.prog 16 #[.pointer (some ⟨bm,0,none⟩),.slice sp N sc,.int .i64 k,.bool true] W (TgtR bm N k x.words W)):=Lib.hid λ W hk hr=>by
              have:=target_any (bm:=bm) (n:=N) (c:=sc) (p:=sp) HS.out (by rw [HLl.out];exact Nat.le_refl _) HN.out.2 k hx true hk
              rw [HLl.out] at this
              exact this hr
             have HWi:Hid (∀ (W:World) (lo wd m:Nat) (pi:Option Addr) (ci:Nat),(m=0→1≤wd∧wd≤8∧x.words=0)→ROA (λ b=>b≠bm) W (.slice sp N sc) 4 N (sigCells l)→Calls Try.prog 17 #[.slice sp N sc,.agg #[.int .i64 k,.int .i64 lo,.int .i64 wd,.slice pi m ci]] W λ e w'=>∃ m:Nat,e = .returned (.int .i64 m)∧1≤m∧m≤8∧Below W.heap.size W w'):=Lib.hid λ W lo wd m pi ci h0 hr=>by
              have:=twidth_any (w:=W) (c:=sc) (p:=sp) HS.out k hx lo wd m pi ci h0
              rw [HLl.out] at this
              exact this hr.ro
             clear hx
             go_wp2_with fail
             refine (HTg.out _ HM_f.out.maker (HM_f.out.sgs eS HLl.out)).mono ?_;rintro e w11 ⟨lo,wd,it,tp,tc,ic,rfl,hr,ht,hw,hlo,hwd,hit,h0,hk9,hu9⟩
             have HM_g:=Lib.hid (HM_f.out.idx hk9 hu9 hr ht hw)
             have HTw:=Lib.hid (And.intro h0 (And.intro hlo (And.intro hwd (And.intro hit hw))))
             clear hr ht hw hlo hwd hit h0 hk9 hu9 HM_f d0
             go_upto_region 41 with fail
             obtain ⟨itn,hitn⟩:∃ v,it.len=v:=⟨_,rfl⟩
             rw [hitn] at HM_g HTw ⊢
             have HItn:=Lib.hid hitn
             clear hitn
             have HM_h:Hid (MD bm N w1 (w11.alloc (.cells #[.int .i64 k,.int .i64 lo,.int .i64 wd,.slice tp itn tc] 79)) (DRof (S3 l pl ps pc body bc) (updV V .body (.slice vp9 body.len vc9))) (S3 l pl ps pc body bc) ((w11.heap.size,79, [.int .i64 k,.int .i64 lo,.int .i64 wd,.slice tp itn tc])::(bsP pb 3 i (.slice vp9 body.len vc9) db V b13 b14)) [(it,ic)] ((.slice tp itn tc,8,itn,ic)::(rs2 b13 b14 nmb))):=Lib.hid (HM_g.out.lay 79 [.int .i64 k,.int .i64 lo,.int .i64 wd,.slice tp itn tc])
             obtain ⟨tb,htb⟩:∃ eb,w11.heap.size=eb:=⟨_,rfl⟩
             rw [htb] at HM_h ⊢
             generalize w11.alloc (.cells #[.int .i64 k,.int .i64 lo,.int .i64 wd,.slice tp itn tc] 79)=w12 at *
             clear htb HM_g
             have HTr:Hid (TrM bm w12 [] w12.drew):=Lib.hid ⟨HM_h.out.maker.below (below_drewN 1),HM_h.out.maker.lt,Upd.below (below_drewN 1),λ p hp=>(by cases hp),λ p hp=>(by cases hp),List.nodup_nil⟩
             have n0:=HM_h.out.ne 0 rfl
             have n1:=HM_h.out.ne 1 rfl
             have n2:=HM_h.out.ne 2 rfl
             have d0:=(HM_h.out.at 2 rfl).cell (i:=0) rfl
             rw [eS] at d0
             have p4:=(HM_h.out.at 1 rfl).cell (i:=4) rfl
             have e0:=(HM_h.out.at 0 rfl).cell (i:=0) rfl
             have e1:=(HM_h.out.at 0 rfl).cell (i:=1) rfl
             have e2:=(HM_h.out.at 0 rfl).cell (i:=2) rfl
             have e3:=(HM_h.out.at 0 rfl).cell (i:=3) rfl
             refine wp_region_webCM (bm:=bm) (w0:=w12) [.known (.pointer (some ⟨pb,4,none⟩)),.known (.slice vp9 body.len vc9),.known (.agg #[.int .i64 k,.int .i64 lo,.int .i64 wd,.slice tp itn tc]),.known (.pointer (some ⟨bm,0,none⟩)),.known (.pointer (some ⟨db,0,none⟩)),.known (.slice sp N sc),.known (.pointer (some ⟨db,0,none⟩)),.known (.slice sp N sc),.known (.agg #[.int .i64 k,.int .i64 lo,.int .i64 wd,.slice tp itn tc]),.rel (λ v _=>∃ m:Nat,(1≤m∧m≤8)∧v = .int .i64 (m:Nat)) (λ _ => []),.rel (λ v W=>∃ (H:TH) (a:TL) (o:Int) (g:Bool) (vp:Option Addr) (vn vc:Nat) (ap:Option Addr) (an ac:Nat),v = .agg #[.int .i64 (H.k:Nat),.int .i64 o,.int .i64 (H.w:Nat),.int .i64 (H.s:Nat),.int .i64 (H.lo:Nat),.bool g,.slice vp vn vc,.slice ap an ac]∧TreeP w12 N W H a o g vp vn vc ap an ac) (λ _ => []),.rel (λ v W=>∃ (H:TH) (a:TL) (o:Int) (g:Bool) (vp:Option Addr) (vn vc:Nat) (ap:Option Addr) (an ac:Nat),v = .agg #[.int .i64 2,.int .i64 k,.int .i64 lo,.int .i64 wd,.slice tp itn tc,.int .i64 (H.k:Nat),.int .i64 o,.int .i64 (H.w:Nat),.int .i64 (H.s:Nat),.int .i64 (H.lo:Nat),.bool g,.slice vp vn vc,.slice ap an ac,.slice none 0 0,.slice none 0 0,.int .i64 0]∧TreeP w12 N W H a o g vp vn vc ap an ac) (λ _ => []),.rel (λ v W=>∃ (L:Nat) (H:TH) (a:TL) (o:Int) (g:Bool) (vp:Option Addr) (vn vc:Nat) (ap:Option Addr) (an ac:Nat),v = .slice (some ⟨L,0,none⟩) 1 1∧Blk W L 81 [.int .i64 2,.int .i64 k,.int .i64 lo,.int .i64 wd,.slice tp itn tc,.int .i64 (H.k:Nat),.int .i64 o,.int .i64 (H.w:Nat),.int .i64 (H.s:Nat),.int .i64 (H.lo:Nat),.bool g,.slice vp vn vc,.slice ap an ac,.slice none 0 0,.slice none 0 0,.int .i64 0]∧bm<L∧w12.heap.size≤L∧TreeP w12 N W H a o g vp vn vc ap an ac) (λ _ => [])] [1,1,1,1,1,1,1,1,1,1,1,1,1] [] 199 3 #[true,true,true,true,true,true,true,true,true,true,true,true,true,false,false,false] (by kernel_rfl) (by kernel_rfl) rfl rfl rfl (Nat.le_of_ble_eq_true rfl) ⟨Sp.MonoM.known,Sp.MonoM.known,Sp.MonoM.known,Sp.MonoM.known,Sp.MonoM.known,Sp.MonoM.known,Sp.MonoM.known,Sp.MonoM.known,Sp.MonoM.known,(λ _ _ _ _ h=>h),(λ _ _ _ hb ⟨H,a,o,g,vp,vn,vc,ap,an,ac,h1,h2⟩=>⟨H,a,o,g,vp,vn,vc,ap,an,ac,h1,h2.mono HM_h.out.maker.lt hb⟩),(λ _ _ _ hb ⟨H,a,o,g,vp,vn,vc,ap,an,ac,h1,h2⟩=>⟨H,a,o,g,vp,vn,vc,ap,an,ac,h1,h2.mono HM_h.out.maker.lt hb⟩),(λ _ _ _ hb ⟨L,H,a,o,g,vp,vn,vc,ap,an,ac,h1,h3,h4,h5,h2⟩=>⟨L,H,a,o,g,vp,vn,vc,ap,an,ac,h1,hb.1.blk h3 (λ e=>by have e':L=bm:=e;omega),h4,h5,h2.mono HM_h.out.maker.lt hb⟩),trivial⟩ HTr.out (λ _ _ _ _ _ h=>h) (A := ?_) ?_ ?_ ?_
             rotate_left
             ·intro u
              simp only [fillC,Sp.val,Nat.reduceBEq,cond_false,Act.put,List.setIfInBounds_toArray,List.set_cons_zero,List.set_cons_succ]
              rfl
             iterate 9 (refine ob_yes (web_opM (o:=_) rfl (λ u W hT hd Q K hK => ?_)) ?_;· (have ca0:W.cell? _=some _:=hT.bel.cell d0 n2;have ca1:W.cell? _=some _:=hT.bel.cell p4 n1;have ca2:W.cell? _=some _:=hT.bel.cell e0 n0;have ca3:W.cell? _=some _:=hT.bel.cell e1 n0;have ca4:W.cell? _=some _:=hT.bel.cell e2 n0;have ca5:W.cell? _=some _:=hT.bel.cell e3 n0;go_simp;exact hK.out _ _ (BM.refl hT.maker) rfl (λ p hp=>by cases hp) List.nodup_nil))
             refine ob_yes (web_opM (o:=_) rfl (λ u W hT hd Q K hK => ?_)) ?_
             ·(try simp only [Act.put,List.setIfInBounds_toArray,List.set_cons_zero,List.set_cons_succ] at hK)
              have ca0:W.cell? _=some _:=hT.bel.cell d0 n2
              have ca1:W.cell? _=some _:=hT.bel.cell p4 n1
              have ca2:W.cell? _=some _:=hT.bel.cell e0 n0
              have ca3:W.cell? _=some _:=hT.bel.cell e1 n0
              have ca4:W.cell? _=some _:=hT.bel.cell e2 n0
              have ca5:W.cell? _=some _:=hT.bel.cell e3 n0
              go_simp
              refine (HWi.out _ lo wd itn tp tc HTw.out.1 ((HM_h.out.call hT.maker hT.bel).sgs eS HLl.out)).mono ?_;rintro e w' ⟨m9,rfl,h1,h2,hb⟩
              exact hK.out _ _ (BM.below hT.maker hb) ⟨m9,⟨h1,h2⟩,rfl⟩ (λ p hp=>by cases hp) List.nodup_nil
             refine ob_yes (web_opM (o:=_) rfl (λ u W hT hd Q K hK => ?_)) ?_
             ·have d9:=hd 9 (by kernel_rfl)
              generalize u 9=x9 at *
              obtain ⟨m9,hm9,rfl⟩:=d9
              (try simp only [Act.put,List.setIfInBounds_toArray,List.set_cons_zero,List.set_cons_succ] at hK)
              have ca0:W.cell? _=some _:=hT.bel.cell d0 n2
              have ca1:W.cell? _=some _:=hT.bel.cell p4 n1
              have ca2:W.cell? _=some _:=hT.bel.cell e0 n0
              have ca3:W.cell? _=some _:=hT.bel.cell e1 n0
              have ca4:W.cell? _=some _:=hT.bel.cell e2 n0
              have ca5:W.cell? _=some _:=hT.bel.cell e3 n0
              go_simp
              refine (HE.out N _ m9 (by have:=HN.out;omega) (Nat.le_refl _) hm9.1 hm9.2 hT.maker ((HM_h.out.call hT.maker hT.bel).sgs eS HLl.out)).mono ?_;intro e w13 hR;obtain ⟨H,a,o,g,vp,vn,vc,ap,an,ac,rfl,ht,hw,hk9,hu9⟩:=hR.open;clear hR
              exact hK.out _ _ ⟨hu9,hk9⟩ ⟨H,a,o,g,vp,vn,vc,ap,an,ac,rfl,ht.mono λ b hb=>Nat.le_trans hT.bel.size hb,hw⟩ (λ p hp=>by cases hp) List.nodup_nil
             refine ob_yes (web_opM (o:=_) rfl (λ u W hT hd Q K hK => ?_)) ?_
             ·have d10:=hd 10 (by kernel_rfl)
              generalize u 10=x10 at *
              obtain ⟨⟨ck10,cw10,cs10,cl10⟩,ca10_,co10,cg10,vp10,vn10,vc10_,ap10,an10,ac10,rfl,hTP10⟩:=d10
              (try simp only [Act.put,List.setIfInBounds_toArray,List.set_cons_zero,List.set_cons_succ] at hK)
              have ca0:W.cell? _=some _:=hT.bel.cell d0 n2
              have ca1:W.cell? _=some _:=hT.bel.cell p4 n1
              have ca2:W.cell? _=some _:=hT.bel.cell e0 n0
              have ca3:W.cell? _=some _:=hT.bel.cell e1 n0
              have ca4:W.cell? _=some _:=hT.bel.cell e2 n0
              have ca5:W.cell? _=some _:=hT.bel.cell e3 n0
              go_simp
              exact hK.out _ _ (BM.refl hT.maker) ⟨⟨ck10,cw10,cs10,cl10⟩,ca10_,co10,cg10,vp10,vn10,vc10_,ap10,an10,ac10,rfl,hTP10⟩ (λ p hp=>by cases hp) List.nodup_nil
             refine ob_yes (web_opM (o:=_) rfl (λ u W hT hd Q K hK => ?_)) ?_
             ·have d11:=hd 11 (by kernel_rfl)
              generalize u 11=x11 at *
              obtain ⟨⟨ck11,cw11,cs11,cl11⟩,ca11_,co11,cg11,vp11,vn11,vc11_,ap11,an11,ac11,rfl,hTP11⟩:=d11
              (try simp only [Act.put,List.setIfInBounds_toArray,List.set_cons_zero,List.set_cons_succ] at hK)
              have ca0:W.cell? _=some _:=hT.bel.cell d0 n2
              have ca1:W.cell? _=some _:=hT.bel.cell p4 n1
              have ca2:W.cell? _=some _:=hT.bel.cell e0 n0
              have ca3:W.cell? _=some _:=hT.bel.cell e1 n0
              have ca4:W.cell? _=some _:=hT.bel.cell e2 n0
              have ca5:W.cell? _=some _:=hT.bel.cell e3 n0
              go_simp
              exact hK.out _ _ (BM.below hT.maker (Below.new _ _)) ⟨_,⟨ck11,cw11,cs11,cl11⟩,ca11_,co11,cg11,vp11,vn11,vc11_,ap11,an11,ac11,rfl,Blk.new _ _,hT.maker.lt,hT.bel.size,hTP11.mono HM_h.out.maker.lt (BM.below hT.maker (Below.new _ _))⟩ (λ p hp=>by cases hp) List.nodup_nil
             exact ob_nil
             intro u wx hT hok
             obtain ⟨h0,h1,h2,h3,h4,h5,h6,h7,h8,h9,h10,h11,h12,_⟩:=hok
             clear h0 h1 h2 h3 h4 h5 h6 h7 h8 h9 h10 h11
             simp only [ownsC,Sp.own,Nat.reduceBEq,cond_false,List.append_nil] at hT
             have d12:=h12 (by kernel_rfl)
             clear h12
             generalize u 12=x12 at *
             obtain ⟨L12,⟨ck12,cw12,cs12,cl12⟩,ca12_,co12,cg12,vp12,vn12,vc12_,ap12,an12,ac12,rfl,hB12,hL12,hG12,hTP12⟩:=d12
             (try dsimp only [List.nil_append,List.cons_append] at hT)
             have HTE:=Lib.hid hT
             clear hT
             clear HTr d0 p4 n0 n1 n2 e0 e1 e2 e3
             have HWt:=Lib.hid hTP12.2
             refine wpAny_of_held (S:=λ _=>True) _ _ _ _ ?_
             have HX:Hid (MD bm N w1 wx (DRof (S3 l pl ps pc body bc) (updV V .body (.slice vp9 body.len vc9))) (S3 l pl ps pc body bc) ((tb,79, [.int .i64 k,.int .i64 lo,.int .i64 wd,.slice tp itn tc])::(bsP pb 3 i (.slice vp9 body.len vc9) db V b13 b14)) [(it,ic)] ((.slice tp itn tc,8,itn,ic)::(rs2 b13 b14 nmb))):=Lib.hid (HM_h.out.call HTE.out.maker HTE.out.bel)
             have hoa:wx.ownsRow w1.heap.size 81 16 (.slice vp9 body.len vc9) body.len bc:=HX.out.mem.own .body
             have hb8:body.len≤16:=by have h1:=HB.out.2.1;have h2:=HKt.out;have h3:=HT.out.2;have h4:=HN.out.2;omega
             have hbz:=HX.out.bel.size
             refine wpAnyH_ready (rs := [13]) (by kernel_rfl) (by simp) ?_
             refine held_cons rfl (λ K hK => ?_) AllReadyH.nil
             refine step_app rfl _ _ 70 rfl TSts w1.heap.size (.slice vp9 body.len vc9) body.len bc rfl hoa L12 1 1 [.int .i64 2,.int .i64 k,.int .i64 lo,.int .i64 wd,.slice tp itn tc,.int .i64 (ck12:Nat),.int .i64 co12,.int .i64 (cw12:Nat),.int .i64 (cs12:Nat),.int .i64 (cl12:Nat),.bool cg12,.slice vp12 vn12 vc12_,.slice ap12 an12 ac12,.slice none 0 0,.slice none 0 0,.int .i64 0] rfl #[.int .i64 2,.int .i64 k,.int .i64 lo,.int .i64 wd,.slice tp itn tc,.int .i64 (ck12:Nat),.int .i64 co12,.int .i64 (cw12:Nat),.int .i64 (cs12:Nat),.int .i64 (cl12:Nat),.bool cg12,.slice vp12 vn12 vc12_,.slice ap12 an12 ac12,.slice none 0 0,.slice none 0 0,.int .i64 0] hB12 rfl rfl (by simp [Value.oneCell']) Nat.one_pos (by omega) (by omega) hbz ?_
             intro g9 cap9 w9 happ
             refine hK.out _ _ trivial (λ _ => ?_)
             clear hK K
             (try simp only [Act.put,List.setIfInBounds_toArray,List.set_cons_zero,List.set_cons_succ])
             have HY:Hid (MD bm N w1 w9 (DRof (S3 l pl ps pc (body.app (.cons ⟨2,k,lo,wd,0,it,⟨ck12,cw12,cs12,cl12⟩,ca12_⟩ .nil .nil .nil)) (bc ++ [.int .i64 2,.int .i64 k,.int .i64 lo,.int .i64 wd,.slice tp itn tc,.int .i64 (ck12:Nat),.int .i64 co12,.int .i64 (cw12:Nat),.int .i64 (cs12:Nat),.int .i64 (cl12:Nat),.bool cg12,.slice vp12 vn12 vc12_,.slice ap12 an12 ac12,.slice none 0 0,.slice none 0 0,.int .i64 0])) (updV V .body (.slice (some ⟨g9,0,none⟩) (body.len+1) cap9))) (S3 l pl ps pc (body.app (.cons ⟨2,k,lo,wd,0,it,⟨ck12,cw12,cs12,cl12⟩,ca12_⟩ .nil .nil .nil)) (bc ++ [.int .i64 2,.int .i64 k,.int .i64 lo,.int .i64 wd,.slice tp itn tc,.int .i64 (ck12:Nat),.int .i64 co12,.int .i64 (cw12:Nat),.int .i64 (cs12:Nat),.int .i64 (cl12:Nat),.bool cg12,.slice vp12 vn12 vc12_,.slice ap12 an12 ac12,.slice none 0 0,.slice none 0 0,.int .i64 0])) ((tb,79, [.int .i64 k,.int .i64 lo,.int .i64 wd,.slice tp itn tc])::(bsP pb 3 i (.slice vp9 body.len vc9) db V b13 b14)) [(it,ic)] ((.slice tp itn tc,8,itn,ic)::(rs2 b13 b14 nmb))):=Lib.hid (by
              have h:=HX.out.bodyApp (t:=(.cons ⟨2,k,lo,wd,0,it,⟨ck12,cw12,cs12,cl12⟩,ca12_⟩ .nil .nil .nil)) (m:=1) rfl happ.toR (sr_mk (h:=⟨2,k,lo,wd,0,it,⟨ck12,cw12,cs12,cl12⟩,ca12_⟩) (b := .nil) (e := .nil) (hTP12.1.mono HM_h.out.newA) (by rw [HItn.out];exact HX.out.r 0 rfl) (HX.out.t 0 rfl).1 ROA.nil sr_nil ROA.nil sr_nil)
              rw [updV_twice] at h
              exact h)
             have q4:=(HY.out.at 1 rfl).cell (i:=4) rfl
             have q4f:=(HY.out.at 1 rfl).frz 4
             have HM_h:Hid (MD bm N w1 (w9.setCell ⟨pb,4,none⟩ (.slice (some ⟨g9,0,none⟩) (body.len+1) cap9)) (DRof (S3 l pl ps pc (body.app (.cons ⟨2,k,lo,wd,0,it,⟨ck12,cw12,cs12,cl12⟩,ca12_⟩ .nil .nil .nil)) (bc ++ [.int .i64 2,.int .i64 k,.int .i64 lo,.int .i64 wd,.slice tp itn tc,.int .i64 (ck12:Nat),.int .i64 co12,.int .i64 (cw12:Nat),.int .i64 (cs12:Nat),.int .i64 (cl12:Nat),.bool cg12,.slice vp12 vn12 vc12_,.slice ap12 an12 ac12,.slice none 0 0,.slice none 0 0,.int .i64 0])) (updV V .body (.slice (some ⟨g9,0,none⟩) (body.len+1) cap9))) (S3 l pl ps pc (body.app (.cons ⟨2,k,lo,wd,0,it,⟨ck12,cw12,cs12,cl12⟩,ca12_⟩ .nil .nil .nil)) (bc ++ [.int .i64 2,.int .i64 k,.int .i64 lo,.int .i64 wd,.slice tp itn tc,.int .i64 (ck12:Nat),.int .i64 co12,.int .i64 (cw12:Nat),.int .i64 (cs12:Nat),.int .i64 (cl12:Nat),.bool cg12,.slice vp12 vn12 vc12_,.slice ap12 an12 ac12,.slice none 0 0,.slice none 0 0,.int .i64 0])) ((bsP pb 3 i (.slice (some ⟨g9,0,none⟩) (body.len+1) cap9) db V b13 b14)) [] (rs2 b13 b14 nmb)):=Lib.hid ((HY.out.set 1 rfl 4 (.slice (some ⟨g9,0,none⟩) (body.len+1) cap9)).drop 1 1)
             clear happ hoa hb8 hbz HX HY
             refine wpAnyH_ready (rs := [14]) (by kernel_rfl) (by simp) ?_
             refine held_cons rfl (λ K hK => ?_) AllReadyH.nil
             go_simp
             refine hK.out _ _ trivial (λ _ => ?_)
             clear hK K
             (try simp only [List.setIfInBounds_toArray,List.set_cons_zero,List.set_cons_succ])
             refine wpAnyH_ready (rs := [15]) (by kernel_rfl) (by simp) ?_
             refine held_cons rfl (λ K hK => ?_) AllReadyH.nil
             go_simp
             refine hK.out _ _ trivial (λ _ => ?_)
             clear hK K
             (try simp only [List.setIfInBounds_toArray,List.set_cons_zero,List.set_cons_succ])
             refine wpAnyH_done (by kernel_rfl) ?_ _
             generalize w9.setCell ⟨pb,4,none⟩ (.slice (some ⟨g9,0,none⟩) (body.len+1) cap9)=w12z at *
             clear q4 q4f
             clear HTE hB12 hL12 hG12 hTP12
             have hkw:IntKind.i64.wrap ((k:Int)+1)=((k+1:Nat):Int):=by rw [i64_of (by have:=HkN.out;have:=HN.out.2;omega)];rfl
             go_wp2_with fail
             go_roundw
             case measure=>simp [intOf];have:=HKt.out;omega
             case rel =>
              refine ⟨k+1,_,_,_,by go_num,by have:=HB.out.2.2.1;omega,HKt.out,SL.app_wf HB.out.1 ?_,by rw [SL.app_len];have:=HB.out.2.1;simp [SL.len];omega,HM_h.out⟩
              have hq:=HTw.out
              exact ⟨⟨by simp,HkN.out,by show lo≤1000;omega,by show wd≤1000;omega,by simp,by show it.len≤1000;rw [HItn.out];omega,hq.2.2.2.2,HWt.out⟩,by simp [SL.len],by simp [SL.len],trivial,trivial,trivial⟩
            ·have hkw:IntKind.i64.wrap ((k:Int)+1)=((k+1:Nat):Int):=by rw [i64_of (by have:=HkN.out;have:=HN.out.2;omega)];rfl
             go_wp2_with fail
             go_roundw
             case measure=>simp [intOf];have:=HKt.out;omega
             case rel=>exact ⟨k+1,body,bc,_,by go_num,by have:=HB.out.2.2.1;omega,HKt.out,HB.out.1,by have:=HB.out.2.1;omega,HM_f.out⟩
           ·obtain rfl:k=t:=by omega
            have hki:¬(k:Int)<(k:Int):=by omega
            clear hlt hkt
            have HBd:Hid (body.wf N∧body.len≤1000):=Lib.hid ⟨HB.out.1,by have h1:=HB.out.2.1;have h3:=HT.out.2;have h4:=HN.out.2;omega⟩
            obtain ⟨n9,hn9⟩:∃ v,body.len=v:=⟨_,rfl⟩
            rw [hn9] at HM_d
            clear hn9 eP
            go_wp2_with fail
            go_meet
            exact ⟨body,bc,vp9,n9,vc9,HBd.out.1,HBd.out.2,HM_d.out⟩
         ·have hk3i:((kd:Int) == 3)=false:=by simp;omega
          have HK3:=Lib.hid hk3;clear hk3
          have d0:=(HM_a.out.at 1 rfl).cell (i:=0) rfl
          rw [eS] at d0
          have hiN:(i:Int)≤(sc:Int):=by have h:=(HM_a.out.sgs eS HLl.out).cap;have:=HI.out;omega
          have hi0:(0:Int)≤(i:Int):=by omega
          go_upto_region 26 with fail
          clear d0 hiN hi0
          go_wp2_with fail
          refine (next_any HM_a.out.maker 6 (by omega) (by omega)).mono ?_;rintro e w6 ⟨r6,hr6,rfl,hk9,hu9⟩
          have HM_b:=Lib.hid (HM_a.out.call hk9 hu9);clear hk9 hu9 HM_a
          go_upto_if 110 with fail
          go_cut [13] from 101 to 113 (λ v wx=>∃ m:Nat,v = .slice sp m sc∧1≤m∧m≤N∧MD bm N w1 wx (DRof (S3 l pl ps pc .nil []) (updV V .body (.slice none 0 0))) (S3 l pl ps pc .nil []) ((bsP pb kd i (.slice none 0 0) db V b13 b14)) [] (rs2 b13 b14 nmb))
          case first =>
           clear hr6
           by_cases hf:r6=5
           ·subst hf
            have d0:=(HM_b.out.at 1 rfl).cell (i:=0) rfl
            rw [eS] at d0
            go_wp2_with fail
            go_meet
            exact ⟨N,rfl,by have:=HN.out;omega,Nat.le_refl _,HM_b.out⟩
           ·have hfi:((r6:Int) == 5)=false:=by simp;omega
            clear hf
            go_wp2_with fail
            go_meet
            exact ⟨i,rfl,by have:=HP.out;omega,by have:=HI.out;omega,HM_b.out⟩
          case rest =>
           obtain ⟨m,rfl,hm1,hmN,hX⟩:=hcut
           have HM_c:=Lib.hid hX
           have HMm:=Lib.hid (And.intro hm1 hmN)
           clear hX hm1 hmN HM_b hr6
           go_wp2_with fail
           go_loopw [14] (λ kv wr=>∃ (k:Nat) (body:SL) (bc:List Value) (bv:Value),kv = .int .i64 (k:Nat)∧low≤k∧k≤t∧body.wf N∧body.len≤k∧MD bm N w1 wr (DRof (S3 l pl ps pc body bc) (updV V .body (bv))) (S3 l pl ps pc body bc) ((bsP pb kd i (bv) db V b13 b14)) [] (rs2 b13 b14 nmb)) (λ kv _=>t-(intOf kv).toNat)
           case atStart=>exact ⟨low,.nil, [],.slice none 0 0,rfl,Nat.le_refl _,Nat.le_of_lt HLo.out,trivial,Nat.zero_le _,HM_c.out⟩
           case round =>
            obtain ⟨k,body,bc,bv,rfl,hlk,hkt,hbw,hbl,hX⟩:=hrel
            have HM_d:=Lib.hid hX
            have HB:=Lib.hid (And.intro hbw (And.intro hbl (And.intro hlk hkt)))
            clear hX hlk hbw hbl HM_c
            by_cases hlt:k<t
            ·have hki:(k:Int)<(t:Int):=by omega
             have HKt:=Lib.hid hlt
             have hkN:(k:Int)<(N:Int):=by have:=HT.out;omega
             have hk0:(0:Int)≤(k:Int):=by omega
             obtain ⟨x,hx⟩:∃ x,l[k]? = some x:=⟨_,List.getElem?_eq_getElem (by rw [HLl.out];have:=HT.out;omega)⟩
             have HXw:=Lib.hid (HS.out.w _ (List.mem_of_getElem? hx))
             obtain ⟨sb,so,rfl⟩:=(HM_d.out.sgs eS HLl.out).ro.sl (sigCells_at hx).1
             have s1:=(HM_d.out.sgs eS HLl.out).ro.cell (sigCells_at hx).2.1
             rw [←Nat.add_assoc] at s1
             have d0:=(HM_d.out.at 1 rfl).cell (i:=0) rfl
             rw [eS] at d0
             obtain ⟨xn,xw,xg,xq⟩:=x
             dsimp only at s1
             have HXx:=Lib.hid hx
             clear hlt hkt hx
             go_wp2_with fail
             refine (HE.out m _ xw HMm.out.1 HMm.out.2 HXw.out.1 HXw.out.2.1 HM_d.out.maker (HM_d.out.sgs eS HLl.out)).mono ?_;intro e w7 hR;obtain ⟨⟨ck,cw,cs,cl⟩,ca,co,cg,cvp,cvn,cvc,cap,can,cac,rfl,htc,hwc,hk9,hu9⟩:=hR.open;clear hR
             have HM_e:=Lib.hid (HM_d.out.tree hk9 hu9 htc hwc);clear hk9 hu9 htc hwc HM_d s1 d0
             go_upto_region 32 with fail
             have HM_f:Hid (MD bm N w1 (w7.alloc (.cells #[.int .i64 (ck:Nat),.int .i64 co,.int .i64 (cw:Nat),.int .i64 (cs:Nat),.int .i64 (cl:Nat),.bool cg,.slice cvp cvn cvc,.slice cap can cac] 76)) (DRof (S3 l pl ps pc body bc) (updV V .body (bv))) (S3 l pl ps pc body bc) ((w7.heap.size,76, [.int .i64 (ck:Nat),.int .i64 co,.int .i64 (cw:Nat),.int .i64 (cs:Nat),.int .i64 (cl:Nat),.bool cg,.slice cvp cvn cvc,.slice cap can cac])::(bsP pb kd i (bv) db V b13 b14)) [(.cons ⟨ck,cw,cs,cl⟩ ca .nil, [.int .i64 (ck:Nat),.int .i64 co,.int .i64 (cw:Nat),.int .i64 (cs:Nat),.int .i64 (cl:Nat),.bool cg,.slice cvp cvn cvc,.slice cap can cac])] (rs2 b13 b14 nmb)):=Lib.hid (HM_e.out.lay 76 [.int .i64 (ck:Nat),.int .i64 co,.int .i64 (cw:Nat),.int .i64 (cs:Nat),.int .i64 (cl:Nat),.bool cg,.slice cvp cvn cvc,.slice cap can cac])
             obtain ⟨eb,heb⟩:∃ eb,w7.heap.size=eb:=⟨_,rfl⟩
             rw [heb] at HM_f ⊢
             generalize w7.alloc (.cells #[.int .i64 (ck:Nat),.int .i64 co,.int .i64 (cw:Nat),.int .i64 (cs:Nat),.int .i64 (cl:Nat),.bool cg,.slice cvp cvn cvc,.slice cap can cac] 76)=w8 at *
             clear heb HM_e
             have HTr:Hid (TrM bm w8 [] w8.drew):=Lib.hid ⟨HM_f.out.maker.below (below_drewN 1),HM_f.out.maker.lt,Upd.below (below_drewN 1),λ p hp=>(by cases hp),λ p hp=>(by cases hp),List.nodup_nil⟩
             have n0:=HM_f.out.ne 0 rfl
             have n1:=HM_f.out.ne 1 rfl
             have n2:=HM_f.out.ne 2 rfl
             have ns:¬One bm sb:=ne_of_ro (HM_f.out.sgs eS HLl.out) (sigCells_at HXx.out).1
             have s1:=(HM_f.out.sgs eS HLl.out).ro.cell (sigCells_at HXx.out).2.1
             rw [←Nat.add_assoc] at s1
             dsimp only at s1
             have d0:=(HM_f.out.at 2 rfl).cell (i:=0) rfl
             rw [eS] at d0
             have p4:=(HM_f.out.at 1 rfl).cell (i:=4) rfl
             have e0:=(HM_f.out.at 0 rfl).cell (i:=0) rfl
             have e1:=(HM_f.out.at 0 rfl).cell (i:=1) rfl
             have e2:=(HM_f.out.at 0 rfl).cell (i:=2) rfl
             have e3:=(HM_f.out.at 0 rfl).cell (i:=3) rfl
             have e4:=(HM_f.out.at 0 rfl).cell (i:=4) rfl
             have e5:=(HM_f.out.at 0 rfl).cell (i:=5) rfl
             have e6:=(HM_f.out.at 0 rfl).cell (i:=6) rfl
             have e7:=(HM_f.out.at 0 rfl).cell (i:=7) rfl
             refine wp_region_webCM (bm:=bm) (w0:=w8) [.known (.pointer (some ⟨pb,4,none⟩)),.known (bv),.known (.int .i64 k),.known (.pointer (some ⟨db,0,none⟩)),.known (.slice (some ⟨sb,so,none⟩) N sc),.known (.int .i64 k),.known (.pointer (some ⟨sb,so+k*4,none⟩)),.known (.pointer (some ⟨sb,so+k*4+1,none⟩)),.known (.int .i64 xw),.known (.agg #[.int .i64 k,.int .i64 0,.int .i64 xw,.slice none 0 0]),.known (.agg #[.int .i64 (ck:Nat),.int .i64 co,.int .i64 (cw:Nat),.int .i64 (cs:Nat),.int .i64 (cl:Nat),.bool cg,.slice cvp cvn cvc,.slice cap can cac]),.known (.agg #[.int .i64 1,.int .i64 k,.int .i64 0,.int .i64 xw,.slice none 0 0,.int .i64 (ck:Nat),.int .i64 co,.int .i64 (cw:Nat),.int .i64 (cs:Nat),.int .i64 (cl:Nat),.bool cg,.slice cvp cvn cvc,.slice cap can cac,.slice none 0 0,.slice none 0 0,.int .i64 0]),.rel (λ v W=>∃ L,v = .slice (some ⟨L,0,none⟩) 1 1∧Blk W L 81 [.int .i64 1,.int .i64 k,.int .i64 0,.int .i64 xw,.slice none 0 0,.int .i64 (ck:Nat),.int .i64 co,.int .i64 (cw:Nat),.int .i64 (cs:Nat),.int .i64 (cl:Nat),.bool cg,.slice cvp cvn cvc,.slice cap can cac,.slice none 0 0,.slice none 0 0,.int .i64 0]∧bm<L∧w8.heap.size≤L) (λ _ => [])] [1,1,1,1,1,1,1,1,1,1,1,1,1] [] 141 3 #[true,true,true,true,true,true,true,true,true,true,true,true,true,false,false,false] (by kernel_rfl) (by kernel_rfl) rfl rfl rfl (Nat.le_of_ble_eq_true rfl) ⟨Sp.MonoM.known,Sp.MonoM.known,Sp.MonoM.known,Sp.MonoM.known,Sp.MonoM.known,Sp.MonoM.known,Sp.MonoM.known,Sp.MonoM.known,Sp.MonoM.known,Sp.MonoM.known,Sp.MonoM.known,Sp.MonoM.known,mono_blkL,trivial⟩ HTr.out (λ _ _ _ _ _ h=>h) (A := ?_) ?_ ?_ ?_
             rotate_left
             ·intro u
              simp only [fillC,Sp.val,Nat.reduceBEq,cond_false,Act.put,List.setIfInBounds_toArray,List.set_cons_zero,List.set_cons_succ]
              rfl
             iterate 12 (refine ob_yes (web_opM (o:=_) rfl (λ u W hT hd Q K hK => ?_)) ?_;· (have ca0:W.cell? _=some _:=hT.bel.cell s1 ns;have ca1:W.cell? _=some _:=hT.bel.cell d0 n2;have ca2:W.cell? _=some _:=hT.bel.cell p4 n1;have ca3:W.cell? _=some _:=hT.bel.cell e0 n0;have ca4:W.cell? _=some _:=hT.bel.cell e1 n0;have ca5:W.cell? _=some _:=hT.bel.cell e2 n0;have ca6:W.cell? _=some _:=hT.bel.cell e3 n0;have ca7:W.cell? _=some _:=hT.bel.cell e4 n0;have ca8:W.cell? _=some _:=hT.bel.cell e5 n0;have ca9:W.cell? _=some _:=hT.bel.cell e6 n0;have ca10:W.cell? _=some _:=hT.bel.cell e7 n0;go_simp;exact hK.out _ _ (BM.refl hT.maker) rfl (λ p hp=>by cases hp) List.nodup_nil))
             refine ob_yes (web_opM (o:=_) rfl (λ u W hT hd Q K hK => ?_)) ?_
             ·(try simp only [Act.put,List.setIfInBounds_toArray,List.set_cons_zero,List.set_cons_succ] at hK)
              have ca0:W.cell? _=some _:=hT.bel.cell s1 ns
              have ca1:W.cell? _=some _:=hT.bel.cell d0 n2
              have ca2:W.cell? _=some _:=hT.bel.cell p4 n1
              have ca3:W.cell? _=some _:=hT.bel.cell e0 n0
              have ca4:W.cell? _=some _:=hT.bel.cell e1 n0
              have ca5:W.cell? _=some _:=hT.bel.cell e2 n0
              have ca6:W.cell? _=some _:=hT.bel.cell e3 n0
              have ca7:W.cell? _=some _:=hT.bel.cell e4 n0
              have ca8:W.cell? _=some _:=hT.bel.cell e5 n0
              have ca9:W.cell? _=some _:=hT.bel.cell e6 n0
              have ca10:W.cell? _=some _:=hT.bel.cell e7 n0
              go_simp
              exact hK.out _ _ (BM.below hT.maker (Below.new _ _)) ⟨_,rfl,Blk.new _ _,hT.maker.lt,hT.bel.size⟩ (λ p hp=>by cases hp) List.nodup_nil
             exact ob_nil
             intro u wx hT hok
             obtain ⟨h0,h1,h2,h3,h4,h5,h6,h7,h8,h9,h10,h11,h12,_⟩:=hok
             clear h0 h1 h2 h3 h4 h5 h6 h7 h8 h9 h10 h11
             simp only [ownsC,Sp.own,Nat.reduceBEq,cond_false,List.append_nil] at hT
             have d12:=h12 (by kernel_rfl)
             clear h12
             generalize u 12=x12 at *
             obtain ⟨L12,rfl,hB12,hL12,hG12⟩:=d12
             (try dsimp only [List.nil_append,List.cons_append] at hT)
             have HTE:=Lib.hid hT
             clear hT
             clear HTr s1 d0 p4 n0 n1 n2 ns e0 e1 e2 e3 e4 e5 e6 e7
             refine wpAny_of_held (S:=λ _=>True) _ _ _ _ ?_
             have HX:Hid (MD bm N w1 wx (DRof (S3 l pl ps pc body bc) (updV V .body (bv))) (S3 l pl ps pc body bc) ((L12,81, [.int .i64 1,.int .i64 k,.int .i64 0,.int .i64 xw,.slice none 0 0,.int .i64 (ck:Nat),.int .i64 co,.int .i64 (cw:Nat),.int .i64 (cs:Nat),.int .i64 (cl:Nat),.bool cg,.slice cvp cvn cvc,.slice cap can cac,.slice none 0 0,.slice none 0 0,.int .i64 0])::(eb,76, [.int .i64 (ck:Nat),.int .i64 co,.int .i64 (cw:Nat),.int .i64 (cs:Nat),.int .i64 (cl:Nat),.bool cg,.slice cvp cvn cvc,.slice cap can cac])::(bsP pb kd i (bv) db V b13 b14)) [(.cons ⟨ck,cw,cs,cl⟩ ca .nil, [.int .i64 (ck:Nat),.int .i64 co,.int .i64 (cw:Nat),.int .i64 (cs:Nat),.int .i64 (cl:Nat),.bool cg,.slice cvp cvn cvc,.slice cap can cac])] ((rs2 b13 b14 nmb))):=Lib.hid (HM_f.out.box HTE.out.maker HTE.out.bel hB12 hG12)
             have hoa:wx.ownsRow w1.heap.size 81 16 (bv) body.len bc:=HX.out.mem.own .body
             have hb8:body.len≤16:=by have h1:=HB.out.2.1;have h2:=HKt.out;have h3:=HT.out.2;have h4:=HN.out.2;omega
             have hbz:=HX.out.bel.size
             refine wpAnyH_ready (rs := [13]) (by kernel_rfl) (by simp) ?_
             refine held_cons rfl (λ K hK => ?_) AllReadyH.nil
             refine step_app rfl _ _ 70 rfl TSts w1.heap.size (bv) body.len bc rfl hoa L12 1 1 [.int .i64 1,.int .i64 k,.int .i64 0,.int .i64 xw,.slice none 0 0,.int .i64 (ck:Nat),.int .i64 co,.int .i64 (cw:Nat),.int .i64 (cs:Nat),.int .i64 (cl:Nat),.bool cg,.slice cvp cvn cvc,.slice cap can cac,.slice none 0 0,.slice none 0 0,.int .i64 0] rfl #[.int .i64 1,.int .i64 k,.int .i64 0,.int .i64 xw,.slice none 0 0,.int .i64 (ck:Nat),.int .i64 co,.int .i64 (cw:Nat),.int .i64 (cs:Nat),.int .i64 (cl:Nat),.bool cg,.slice cvp cvn cvc,.slice cap can cac,.slice none 0 0,.slice none 0 0,.int .i64 0] hB12 rfl rfl (by simp [Value.oneCell']) Nat.one_pos (by omega) (by omega) hbz ?_
             intro g9 cap9 w9 happ
             refine hK.out _ _ trivial (λ _ => ?_)
             clear hK K
             (try simp only [Act.put,List.setIfInBounds_toArray,List.set_cons_zero,List.set_cons_succ])
             have HY:Hid (MD bm N w1 w9 (DRof (S3 l pl ps pc (body.app (.cons ⟨1,k,0,xw,0,.nil,⟨ck,cw,cs,cl⟩,ca⟩ .nil .nil .nil)) (bc ++ [.int .i64 1,.int .i64 k,.int .i64 0,.int .i64 xw,.slice none 0 0,.int .i64 (ck:Nat),.int .i64 co,.int .i64 (cw:Nat),.int .i64 (cs:Nat),.int .i64 (cl:Nat),.bool cg,.slice cvp cvn cvc,.slice cap can cac,.slice none 0 0,.slice none 0 0,.int .i64 0])) (updV V .body (.slice (some ⟨g9,0,none⟩) (body.len+1) cap9))) (S3 l pl ps pc (body.app (.cons ⟨1,k,0,xw,0,.nil,⟨ck,cw,cs,cl⟩,ca⟩ .nil .nil .nil)) (bc ++ [.int .i64 1,.int .i64 k,.int .i64 0,.int .i64 xw,.slice none 0 0,.int .i64 (ck:Nat),.int .i64 co,.int .i64 (cw:Nat),.int .i64 (cs:Nat),.int .i64 (cl:Nat),.bool cg,.slice cvp cvn cvc,.slice cap can cac,.slice none 0 0,.slice none 0 0,.int .i64 0])) ((L12,81, [.int .i64 1,.int .i64 k,.int .i64 0,.int .i64 xw,.slice none 0 0,.int .i64 (ck:Nat),.int .i64 co,.int .i64 (cw:Nat),.int .i64 (cs:Nat),.int .i64 (cl:Nat),.bool cg,.slice cvp cvn cvc,.slice cap can cac,.slice none 0 0,.slice none 0 0,.int .i64 0])::(eb,76, [.int .i64 (ck:Nat),.int .i64 co,.int .i64 (cw:Nat),.int .i64 (cs:Nat),.int .i64 (cl:Nat),.bool cg,.slice cvp cvn cvc,.slice cap can cac])::(bsP pb kd i (bv) db V b13 b14)) [(.cons ⟨ck,cw,cs,cl⟩ ca .nil, [.int .i64 (ck:Nat),.int .i64 co,.int .i64 (cw:Nat),.int .i64 (cs:Nat),.int .i64 (cl:Nat),.bool cg,.slice cvp cvn cvc,.slice cap can cac])] ((rs2 b13 b14 nmb))):=Lib.hid (by
              have h:=HX.out.bodyApp (t:=(.cons ⟨1,k,0,xw,0,.nil,⟨ck,cw,cs,cl⟩,ca⟩ .nil .nil .nil)) (m:=1) rfl happ.toR (sr_mk (h:=⟨1,k,0,xw,0,.nil,⟨ck,cw,cs,cl⟩,ca⟩) (b := .nil) (e := .nil) (HX.out.t 0 rfl).1 ROA.nil tr_nil ROA.nil sr_nil ROA.nil sr_nil)
              rw [updV_twice] at h
              exact h)
             have q4:=(HY.out.at 2 rfl).cell (i:=4) rfl
             have q4f:=(HY.out.at 2 rfl).frz 4
             have HM_h:Hid (MD bm N w1 (w9.setCell ⟨pb,4,none⟩ (.slice (some ⟨g9,0,none⟩) (body.len+1) cap9)) (DRof (S3 l pl ps pc (body.app (.cons ⟨1,k,0,xw,0,.nil,⟨ck,cw,cs,cl⟩,ca⟩ .nil .nil .nil)) (bc ++ [.int .i64 1,.int .i64 k,.int .i64 0,.int .i64 xw,.slice none 0 0,.int .i64 (ck:Nat),.int .i64 co,.int .i64 (cw:Nat),.int .i64 (cs:Nat),.int .i64 (cl:Nat),.bool cg,.slice cvp cvn cvc,.slice cap can cac,.slice none 0 0,.slice none 0 0,.int .i64 0])) (updV V .body (.slice (some ⟨g9,0,none⟩) (body.len+1) cap9))) (S3 l pl ps pc (body.app (.cons ⟨1,k,0,xw,0,.nil,⟨ck,cw,cs,cl⟩,ca⟩ .nil .nil .nil)) (bc ++ [.int .i64 1,.int .i64 k,.int .i64 0,.int .i64 xw,.slice none 0 0,.int .i64 (ck:Nat),.int .i64 co,.int .i64 (cw:Nat),.int .i64 (cs:Nat),.int .i64 (cl:Nat),.bool cg,.slice cvp cvn cvc,.slice cap can cac,.slice none 0 0,.slice none 0 0,.int .i64 0])) ((bsP pb kd i (.slice (some ⟨g9,0,none⟩) (body.len+1) cap9) db V b13 b14)) [] (rs2 b13 b14 nmb)):=Lib.hid ((HY.out.set 2 rfl 4 (.slice (some ⟨g9,0,none⟩) (body.len+1) cap9)).drop 2 0)
             clear happ hoa hb8 hbz HX HY
             refine wpAnyH_ready (rs := [14]) (by kernel_rfl) (by simp) ?_
             refine held_cons rfl (λ K hK => ?_) AllReadyH.nil
             go_simp
             refine hK.out _ _ trivial (λ _ => ?_)
             clear hK K
             (try simp only [List.setIfInBounds_toArray,List.set_cons_zero,List.set_cons_succ])
             refine wpAnyH_ready (rs := [15]) (by kernel_rfl) (by simp) ?_
             refine held_cons rfl (λ K hK => ?_) AllReadyH.nil
             go_simp
             refine hK.out _ _ trivial (λ _ => ?_)
             clear hK K
             (try simp only [List.setIfInBounds_toArray,List.set_cons_zero,List.set_cons_succ])
             refine wpAnyH_done (by kernel_rfl) ?_ _
             generalize w9.setCell ⟨pb,4,none⟩ (.slice (some ⟨g9,0,none⟩) (body.len+1) cap9)=w12z at *
             clear q4 q4f
             clear HXx
             have HWt:=Lib.hid (HM_f.out.t 0 rfl).2
             clear HM_f HTE hB12 hL12 hG12
             have hkw:IntKind.i64.wrap ((k:Int)+1)=((k+1:Nat):Int):=by rw [i64_of (by have:=HKt.out;have:=HT.out.2;have:=HN.out.2;omega)];rfl
             go_wp2_with fail
             go_roundw
             case measure=>simp [intOf];have:=HKt.out;omega
             case rel =>
              refine ⟨k+1,_,_,_,by go_num,by have:=HB.out.2.2.1;omega,HKt.out,SL.app_wf HB.out.1 ?_,by rw [SL.app_len];have:=HB.out.2.1;simp [SL.len];omega,HM_h.out⟩
              exact ⟨⟨by simp,by have:=HKt.out;have:=HT.out.2;show k<N;omega,by simp,by have:=HXw.out.2.1;show xw≤1000;omega,by simp,by simp [TL.len],trivial,HWt.out⟩,by simp [SL.len],by simp [SL.len],trivial,trivial,trivial⟩
            ·obtain rfl:k=t:=by omega
             have hki:¬(k:Int)<(k:Int):=by omega
             clear hlt hkt
             have p0:=(HM_d.out.at 0 rfl).cell (i:=0) rfl
             by_cases hk2:kd=2
             ·subst hk2
              go_upto_region 34 with fail
              have HTr:Hid (TrM bm wr [] wr.drew):=Lib.hid ⟨HM_d.out.maker.below (below_drewN 1),HM_d.out.maker.lt,Upd.below (below_drewN 1),λ p hp=>(by cases hp),λ p hp=>(by cases hp),List.nodup_nil⟩
              have n0:=HM_d.out.ne 0 rfl
              have n1:=HM_d.out.ne 1 rfl
              have d0:=(HM_d.out.at 1 rfl).cell (i:=0) rfl
              rw [eS] at d0
              have p4:=(HM_d.out.at 0 rfl).cell (i:=4) rfl
              refine wp_region_webCM (bm:=bm) (w0:=wr) [.known (.pointer (some ⟨pb,4,none⟩)),.known (bv),.known (.pointer (some ⟨bm,0,none⟩)),.known (.pointer (some ⟨db,0,none⟩)),.known (.slice sp N sc),.known (.int .i64 k),.known (.slice sp k sc),.known (.pointer (some ⟨pb,0,none⟩)),.known (.int .i64 (2:Nat)),.known (.int .i64 low),.known (.int .i64 k),.rel (SpSt wr N) (λ _ => [])] [1,1,1,1,1,1,1,1,1,1,1,1] [] 158 3 #[true,true,true,true,true,true,true,true,true,true,true,true,false,false,false] (by kernel_rfl) (by kernel_rfl) rfl rfl rfl (Nat.le_of_ble_eq_true rfl) ⟨Sp.MonoM.known,Sp.MonoM.known,Sp.MonoM.known,Sp.MonoM.known,Sp.MonoM.known,Sp.MonoM.known,Sp.MonoM.known,Sp.MonoM.known,Sp.MonoM.known,Sp.MonoM.known,Sp.MonoM.known,mono_spst HM_d.out.maker.lt,trivial⟩ HTr.out (λ _ _ _ _ _ h=>h) (A := ?_) ?_ ?_ ?_
              rotate_left
              ·intro u
               simp only [fillC,Sp.val,Nat.reduceBEq,cond_false,Act.put,List.setIfInBounds_toArray,List.set_cons_zero,List.set_cons_succ]
               rfl
              iterate 11 (refine ob_yes (web_opM (o:=_) rfl (λ u W hT hd Q K hK => ?_)) ?_;· (have ca0:W.cell? _=some _:=hT.bel.cell d0 n1;have ca1:W.cell? _=some _:=hT.bel.cell p0 n0;have ca2:W.cell? _=some _:=hT.bel.cell p4 n0;(have hcap:(k:Int)≤(sc:Int):=by have h:=(HM_d.out.sgs eS HLl.out).cap;have:=HT.out.2;omega);(have hk0:(0:Int)≤(k:Int):=by omega);go_simp;exact hK.out _ _ (BM.refl hT.maker) rfl (λ p hp=>by cases hp) List.nodup_nil))
              refine ob_yes (web_opM (o:=_) rfl (λ u W hT hd Q K hK => ?_)) ?_
              ·(try simp only [Act.put,List.setIfInBounds_toArray,List.set_cons_zero,List.set_cons_succ] at hK)
               have ca0:W.cell? _=some _:=hT.bel.cell d0 n1
               have ca1:W.cell? _=some _:=hT.bel.cell p0 n0
               have ca2:W.cell? _=some _:=hT.bel.cell p4 n0
               have hcap:(k:Int)≤(sc:Int):=by have h:=(HM_d.out.sgs eS HLl.out).cap;have:=HT.out.2;omega
               have hk0:(0:Int)≤(k:Int):=by omega
               go_simp
               refine (HSt.out k _ (by have:=HT.out;omega) HT.out.2 (Nat.le_refl _) hT.maker ((HM_d.out.call hT.maker hT.bel).sgs eS HLl.out)).mono ?_;intro e w9 hR;obtain ⟨v,rfl,hk9,hu9,hv⟩:=spst_of hT.bel.size hR
               exact hK.out _ _ ⟨hu9,hk9⟩ hv (λ p hp=>by cases hp) List.nodup_nil
              exact ob_nil
              intro u wx hT hok
              obtain ⟨h0,h1,h2,h3,h4,h5,h6,h7,h8,h9,h10,h11,_⟩:=hok
              clear h0 h1 h2 h3 h4 h5 h6 h7 h8 h9 h10
              simp only [ownsC,Sp.own,Nat.reduceBEq,cond_false,List.append_nil] at hT
              have d11:=h11 (by kernel_rfl)
              clear h11
              generalize u 11=x11 at *
              obtain ⟨st,sp9,sc9,scs,rfl,hO11,hS11,hW11,hL11⟩:=d11
              (try dsimp only [List.nil_append,List.cons_append] at hT)
              have HTE:=Lib.hid hT
              clear hT
              clear HTr p4 d0 p0 n0 n1
              refine wpAny_of_held (S:=λ _=>True) _ _ _ _ ?_
              have HX:Hid (MD bm N w1 wx (DRof (S3 l pl ps pc body bc) (updV V .body (bv))) (S3 l pl ps pc body bc) ((bsP pb 2 i (bv) db V b13 b14)) [] (rs2 b13 b14 nmb)):=Lib.hid (HM_d.out.call HTE.out.maker HTE.out.bel)
              have hoa:wx.ownsRow w1.heap.size 81 16 bv body.len bc:=HX.out.mem.own .body
              have hb8:body.len≤8:=by have h1:=HB.out.2.1;have h3:=HT.out.2;have h4:=HN.out.2;omega
              have hbz:=HX.out.bel.size
              refine wpAnyH_ready (rs := [12]) (by kernel_rfl) (by simp) ?_
              refine held_cons rfl (λ K hK => ?_) AllReadyH.nil
              refine step_appR rfl _ _ 70 rfl TSts w1.heap.size bv body.len bc rfl hoa _ st.len scs rfl (ROA.own hO11).ro (sr_cells_one hS11) (by omega) (by omega) hbz ?_
              intro v9 w9 happ
              refine hK.out _ _ trivial (λ _ => ?_)
              clear hK K
              (try simp only [Act.put,List.setIfInBounds_toArray,List.set_cons_zero,List.set_cons_succ])
              have HY:Hid (MD bm N w1 w9 (DRof (S3 l pl ps pc (body.app st) (bc++scs)) (updV V .body (v9))) (S3 l pl ps pc (body.app st) (bc++scs)) ((bsP pb 2 i (bv) db V b13 b14)) [] (rs2 b13 b14 nmb)):=Lib.hid (by
               have h:=HX.out.bodyApp (t:=st) (m:=st.len) rfl happ (hS11.mono λ b hb=>HM_d.out.newA b hb.1)
               rw [updV_twice] at h
               exact h)
              have q4:=(HY.out.at 0 rfl).cell (i:=4) rfl
              have q4f:=(HY.out.at 0 rfl).frz 4
              obtain ⟨vp9,vc9,rfl⟩:=ownsRow_form happ.own
              have HM_h:Hid (MD bm N w1 (w9.setCell ⟨pb,4,none⟩ (.slice vp9 (body.len+st.len) vc9)) (DRof (S3 l pl ps pc (body.app st) (bc++scs)) (updV V .body (.slice vp9 (body.len+st.len) vc9))) (S3 l pl ps pc (body.app st) (bc++scs)) ((bsP pb 2 i (.slice vp9 (body.len+st.len) vc9) db V b13 b14)) [] (rs2 b13 b14 nmb)):=Lib.hid (HY.out.set 0 rfl 4 _)
              clear happ hoa hb8 hbz HX HY
              refine wpAnyH_ready (rs := [13]) (by kernel_rfl) (by simp) ?_
              refine held_cons rfl (λ K hK => ?_) AllReadyH.nil
              go_simp
              refine hK.out _ _ trivial (λ _ => ?_)
              clear hK K
              (try simp only [List.setIfInBounds_toArray,List.set_cons_zero,List.set_cons_succ])
              refine wpAnyH_ready (rs := [14]) (by kernel_rfl) (by simp) ?_
              refine held_cons rfl (λ K hK => ?_) AllReadyH.nil
              go_simp
              refine hK.out _ _ trivial (λ _ => ?_)
              clear hK K
              (try simp only [List.setIfInBounds_toArray,List.set_cons_zero,List.set_cons_succ])
              refine wpAnyH_done (by kernel_rfl) ?_ _
              generalize w9.setCell ⟨pb,4,none⟩ (.slice vp9 (body.len+st.len) vc9)=w12 at *
              clear q4 q4f HTE HM_d
              have HBd:Hid ((body.app st).wf N∧(body.app st).len≤1000):=Lib.hid ⟨SL.app_wf HB.out.1 hW11,by rw [SL.app_len];have h1:=HB.out.2.1;have h3:=HT.out.2;have h4:=HN.out.2;omega⟩
              clear hO11 hS11 hW11 hL11
              obtain ⟨n9,hn9⟩:∃ v,body.len+st.len=v:=⟨_,rfl⟩
              rw [hn9] at HM_h
              clear hn9
              generalize body.app st=bd at *
              generalize bc++scs=bdc at *
              go_wp2_with fail
              go_meet
              exact ⟨bd,bdc,vp9,n9,vc9,HBd.out.1,HBd.out.2,HM_h.out⟩
             ·have hk2i:((kd:Int) == 2)=false:=by simp;omega
              clear hk2
              obtain ⟨vp9,vc9,eb9⟩:∃ p c,bv = .slice p body.len c:=ownsRow_form (HM_d.out.mem.own .body)
              subst eb9
              have HBd:Hid (body.wf N∧body.len≤1000):=Lib.hid ⟨HB.out.1,by have h1:=HB.out.2.1;have h3:=HT.out.2;have h4:=HN.out.2;omega⟩
              obtain ⟨n9,hn9⟩:∃ v,body.len=v:=⟨_,rfl⟩
              rw [hn9] at HM_d
              clear hn9
              go_wp2_with fail
              go_meet
              exact ⟨body,bc,vp9,n9,vc9,HBd.out.1,HBd.out.2,HM_d.out⟩
        case rest =>
         obtain ⟨body,bc,vp9,n9,vc9,hbw,hbl,hX⟩:=hcut
         have HM_h:=Lib.hid hX
         have HBd:=Lib.hid (And.intro hbw hbl)
         clear hX hbw hbl HM_a HE HSt
         go_wp2_with fail
         refine (next_any HM_h.out.maker 40 (by omega) (by omega)).mono ?_;rintro e w42 ⟨r42,hr42,rfl,hk9,hu9⟩
         have HM_e:=Lib.hid (HM_h.out.call hk9 hu9);clear hk9 hu9 HM_h
         clear hr42
         by_cases hf:r42=39
         ·subst hf
          go_wp2_with fail
          go_roundw
          case measure=>simp [intOf];have:=HT.out;have:=HI.out;omega
          case rel=>exact ⟨t,ps,pc,_,rfl,by have:=HT.out;have:=HP.out;omega,HT.out.2,HP.out.1,by have:=HP.out.2.1;have:=HT.out.1;omega,(HM_e.out.noBody).drop 1 0⟩
         ·have hfi:((r42:Int) == 39)=false:=by simp;omega
          clear hf
          obtain ⟨pp,cp,eP⟩:∃ pp cp,V .procs = .slice pp ps.length cp:=ownsRow_form (HM_e.out.mem.own .procs)
          have hoa:(w42.alloc (.cells #[.int .i64 kd,.int .i64 1,.int .i64 2,.int .i64 i,.slice vp9 n9 vc9] 72)).ownsRow w1.heap.size 72 5 (.slice pp ps.length cp) ps.length pc:=by
           rw [←eP]
           exact (HM_e.out.below (Below.new _ _)).mem.own .procs
          have hbz:w1.heap.size≤(w42.alloc (.cells #[.int .i64 kd,.int .i64 1,.int .i64 2,.int .i64 i,.slice vp9 n9 vc9] 72)).heap.size:=(HM_e.out.below (Below.new _ _)).bel.size
          have hnw:(w42.alloc (.cells #[.int .i64 kd,.int .i64 1,.int .i64 2,.int .i64 i,.slice vp9 n9 vc9] 72)).heap[w42.heap.size]? = some (.cells #[.int .i64 kd,.int .i64 1,.int .i64 2,.int .i64 i,.slice vp9 n9 vc9] 72 (0,0)):=heap_alloc_new _ _
          have d4:=(HM_e.out.at 1 rfl).cell (i:=4) rfl
          rw [eP] at d4
          have p0:=(HM_e.out.at 0 rfl).cell (i:=0) rfl
          have p1:=(HM_e.out.at 0 rfl).cell (i:=1) rfl
          have p2:=(HM_e.out.at 0 rfl).cell (i:=2) rfl
          have p3:=(HM_e.out.at 0 rfl).cell (i:=3) rfl
          have p4:=(HM_e.out.at 0 rfl).cell (i:=4) rfl
          have hpl8:ps.length≤8:=by have h1:=HP.out;have h2:=HN.out;omega
          obtain ⟨np,hnp⟩:∃ np,ps.length=np:=⟨_,rfl⟩
          have HNp:=Lib.hid hnp
          rw [hnp] at hoa d4 hpl8
          clear hnp
          go_upto_region 44 with (at_builtin;go_must (refine wpList_app rfl _ _ 27 rfl TProcs w1.heap.size (.slice pp np cp) np pc rfl hoa w42.heap.size 1 1 [.int .i64 kd,.int .i64 1,.int .i64 2,.int .i64 i,.slice vp9 n9 vc9] rfl #[.int .i64 kd,.int .i64 1,.int .i64 2,.int .i64 i,.slice vp9 n9 vc9] hnw rfl rfl (by simp [Value.oneCell']) Nat.one_pos (by omega) (by omega) hbz ?_;intro g9 cap9 w9 happ;have HX9:Hid (MD bm N w1 w9 (DRof (S2 l pl (ps ++ [⟨kd,1,2,i,body⟩]) (pc ++ [.int .i64 kd,.int .i64 1,.int .i64 2,.int .i64 i,.slice vp9 n9 vc9])) (updV (updV V .body (.slice none 0 0)) .procs (.slice (some ⟨g9,0,none⟩) (np+1) cap9))) (S2 l pl (ps ++ [⟨kd,1,2,i,body⟩]) (pc ++ [.int .i64 kd,.int .i64 1,.int .i64 2,.int .i64 i,.slice vp9 n9 vc9])) ((w42.heap.size,72, [.int .i64 kd,.int .i64 1,.int .i64 2,.int .i64 i,.slice vp9 n9 vc9])::(pb,72, [.int .i64 kd,.int .i64 1,.int .i64 2,.int .i64 i,.slice vp9 n9 vc9])::bsD db V (.slice (some ⟨b13,0,none⟩) 1 1) (.slice (some ⟨b14,0,none⟩) 2 2)) [] (rs2 b13 b14 nmb)):=Lib.hid (by rw [←HNp.out];rw [←HNp.out,←eP] at happ;have h:=MD.moveP HM_e.out kd 1 2 i happ;rw [updV_twice] at h;exact h);have d9:=(HX9.out.at 2 rfl).cell (i:=4) rfl;have df9:=(HX9.out.at 2 rfl).frz 4;rw [eP,HNp.out] at d9;clear happ))
          have HM_z:Hid (MD bm N w1 (w9.setCell ⟨db,4,none⟩ (.slice (some ⟨g9,0,none⟩) (np+1) cap9)) (DRof (S2 l pl (ps ++ [⟨kd,1,2,i,body⟩]) (pc ++ [.int .i64 kd,.int .i64 1,.int .i64 2,.int .i64 i,.slice vp9 n9 vc9])) (updV (updV V .body (.slice none 0 0)) .procs (.slice (some ⟨g9,0,none⟩) (np+1) cap9))) (S2 l pl (ps ++ [⟨kd,1,2,i,body⟩]) (pc ++ [.int .i64 kd,.int .i64 1,.int .i64 2,.int .i64 i,.slice vp9 n9 vc9])) (bsD db (updV (updV V .body (.slice none 0 0)) .procs (.slice (some ⟨g9,0,none⟩) (np+1) cap9)) (.slice (some ⟨b13,0,none⟩) 1 1) (.slice (some ⟨b14,0,none⟩) 2 2)) [] (rs2 b13 b14 nmb)):=Lib.hid ((HX9.out.set 2 rfl 4 (.slice (some ⟨g9,0,none⟩) (np+1) cap9)).drop 2 0)
          generalize w9.setCell ⟨db,4,none⟩ (.slice (some ⟨g9,0,none⟩) (np+1) cap9)=w13 at *
          clear HX9 d9 df9 d4 p0 p1 p2 p3 p4 hoa hbz hnw HM_e eP
          go_wp2_with fail
          go_roundw
          case measure=>simp [intOf];have:=HT.out;have:=HI.out;omega
          case rel=>exact ⟨t,_,_,_,rfl,by have:=HT.out;have:=HP.out;omega,HT.out.2,HP.out.1.app HBd.out HK.out,by rw [List.length_append];have:=HP.out.2.1;have:=HT.out.1;simp;omega,HM_z.out⟩
    ·have hii:¬(i:Int)<(N:Int):=by omega
     clear hlt hi1 hiN
     go_wp2_with fail
     go_loopw [18] (λ jv wr=>∃ (j:Nat) (sts:List (Nat × List Bool)) (stc:List Value) (V3:DK→Value),jv = .int .i64 (j:Nat)∧1≤j∧j≤N∧StP N sts∧sts.length≤j∧MD bm N w1 wr (DRof (S4 l pl ps pc sts stc) V3) (S4 l pl ps pc sts stc) ((bsD db V3 (.slice (some ⟨b13,0,none⟩) 1 1) (.slice (some ⟨b14,0,none⟩) 2 2))) [] ((rs2 b13 b14 nmb))) (λ jv _=>N-(intOf jv).toNat)
     case atStart=>exact ⟨1, [], [],V,rfl,Nat.le_refl _,by have:=HN.out;omega,⟨λ q hq=>(by cases hq)⟩,Nat.zero_le _,HM_wr.out⟩
     case round =>
      obtain ⟨j,sts,stc,V3,rfl,hj1,hjN,hSt,hsl,hX⟩:=hrel
      have HM_a:=Lib.hid hX
      have HJ:=Lib.hid (And.intro hj1 (And.intro hjN (And.intro hSt hsl)))
      clear hX hj1 hSt hsl HM_wr
      by_cases hlt:j<N
      ·as_aux_lemma =>
       have hji:(j:Int)<(N:Int):=by omega
       have HJN:=Lib.hid hlt
       clear hlt hjN
       obtain ⟨sp,sc,eS⟩:∃ sp sc,V3 .sigs = .slice sp N sc:=by
        obtain ⟨sp,sc,e⟩:=ownsRow_form (HM_a.out.mem.own .sigs)
        exact ⟨sp,sc,by rw [←HLl.out];exact e⟩
       obtain ⟨pL,nL,cL,eL⟩:∃ p n c,V3 .places = .slice p n c:=by
        obtain ⟨p,c,e⟩:=ownsRow_form (HM_a.out.mem.own .places)
        exact ⟨p,_,c,e⟩
       obtain ⟨pO,nO,cO,eO⟩:∃ p n c,V3 .outs = .slice p n c:=by
        obtain ⟨p,c,e⟩:=ownsRow_form (HM_a.out.mem.own .outs)
        exact ⟨p,_,c,e⟩
       obtain ⟨pT,nT,cT,eT⟩:∃ p n c,V3 .starts = .slice p n c:=by
        obtain ⟨p,c,e⟩:=ownsRow_form (HM_a.out.mem.own .starts)
        exact ⟨p,_,c,e⟩
       obtain ⟨pP,cP,eP⟩:∃ p c,V3 .procs = .slice p ps.length c:=ownsRow_form (HM_a.out.mem.own .procs)
       have HRo:Hid (∀ W,MD bm N w1 W (DRof (S4 l pl ps pc sts stc) V3) (S4 l pl ps pc sts stc) ((bsD db V3 (.slice (some ⟨b13,0,none⟩) 1 1) (.slice (some ⟨b14,0,none⟩) 2 2))) [] ((rs2 b13 b14 nmb))→Calls Try.prog 18 #[.agg #[.slice sp N sc,.slice pL nL cL,.slice (some ⟨b13,0,none⟩) 1 1,.slice pO nO cO,.slice pP ps.length cP,.slice (some ⟨b14,0,none⟩) 2 2,.slice pT nT cT],.int .i64 j] W (RoleR W)):=Lib.hid λ W h=>by
        have hD:Des W.heap.size W l ps sp sc (some ⟨b13,0,none⟩) 1 1 [0] pP cP pc:=⟨⟨by rw [HLl.out];exact h.sgsB eS HLl.out,HS.out.pos,by have:=HS.out.le;omega,λ x hx=>by have:=HS.out.w x hx;unfold Sg.size;split <;> omega⟩,(h.r 1 rfl).turn λ b _ hl=>⟨hl,rfl⟩,by omega,by rw [←eP];exact h.rowB .procs,h.pg.turn ER.stay λ b _ hl=>⟨hl,rfl⟩,λ q hq=>⟨by rw [HLl.out];exact (HP.out.1.ok q hq).1,by have:=(HP.out.1.ok q hq).2.1;omega⟩,by have:=HP.out.2.1;have:=HP.out.2.2.2;have:=HN.out.2;omega,λ x hx=>by have:=HS.out.w x hx;omega⟩
        have:=role_any (v1 := .slice pL nL cL) (v3 := .slice pO nO cO) (v5 := .slice (some ⟨b14,0,none⟩) 2 2) (v6 := .slice pT nT cT) hD (Nat.le_refl _) j (by rw [HLl.out];exact HJN.out)
        rw [HLl.out] at this
        exact this
       have d0:=(HM_a.out.at 0 rfl).cell (i:=0) rfl
       rw [eS] at d0
       have d1:=(HM_a.out.at 0 rfl).cell (i:=1) rfl
       rw [eL] at d1
       have d2:=(HM_a.out.at 0 rfl).cell (i:=2) rfl
       have d3:=(HM_a.out.at 0 rfl).cell (i:=3) rfl
       rw [eO] at d3
       have d4:=(HM_a.out.at 0 rfl).cell (i:=4) rfl
       rw [eP] at d4
       have d5:=(HM_a.out.at 0 rfl).cell (i:=5) rfl
       have d6:=(HM_a.out.at 0 rfl).cell (i:=6) rfl
       rw [eT] at d6
       go_wp2_with fail
       refine (HRo.out _ HM_a.out).mono ?_;rintro e w5 ⟨r,rfl,hb9⟩
       have HM_b:=Lib.hid (HM_a.out.below hb9);clear hb9 HM_a d0 d1 d2 d3 d4 d5 d6 HRo
       go_upto_region 49 with fail
       go_cut [234] from 216 to 235 (λ v wx=>∃ q:Bool,v = .bool q∧MD bm N w1 wx (DRof (S4 l pl ps pc sts stc) V3) (S4 l pl ps pc sts stc) ((bsD db V3 (.slice (some ⟨b13,0,none⟩) 1 1) (.slice (some ⟨b14,0,none⟩) 2 2))) [] ((rs2 b13 b14 nmb)))
       case first =>
        by_cases h3:r=3
        ·subst h3
         go_wp2_with fail
         refine (next2 HM_b.out.maker).mono ?_;rintro e w6 ⟨r2,hr2,rfl,hk9,hu9⟩
         have HM_c:=Lib.hid (HM_b.out.call hk9 hu9);clear hk9 hu9 hr2
         go_wp2_with fail
         go_meet
         exact ⟨_,rfl,HM_c.out⟩
        ·have h3b:(r == 3)=false:=by simp;exact h3
         clear h3
         by_cases h4:r=4
         ·subst h4
          clear h3b
          go_wp2_with fail
          refine (next2 HM_b.out.maker).mono ?_;rintro e w6 ⟨r2,hr2,rfl,hk9,hu9⟩
          have HM_c:=Lib.hid (HM_b.out.call hk9 hu9);clear hk9 hu9 hr2
          go_wp2_with fail
          go_meet
          exact ⟨_,rfl,HM_c.out⟩
         ·have h4b:(r == 4)=false:=by simp;exact h4
          clear h4
          go_wp2_with fail
          refine (next_any HM_b.out.maker 60 (by omega) (by omega)).mono ?_;rintro e w60 ⟨r60,hr60,rfl,hk9,hu9⟩
          have HM_d:=Lib.hid (HM_b.out.call hk9 hu9);clear hk9 hu9 HM_b
          clear hr60
          by_cases h5:r60=59
          ·subst h5
           have HM_b:=HM_d
           go_wp2_with fail
           refine (next2 HM_b.out.maker).mono ?_;rintro e w6 ⟨r2,hr2,rfl,hk9,hu9⟩
           have HM_c:=Lib.hid (HM_b.out.call hk9 hu9);clear hk9 hu9 hr2
           go_wp2_with fail
           go_meet
           exact ⟨_,rfl,HM_c.out⟩
          ·have h5b:((r60:Int) == 59)=false:=by simp;omega
           clear h5
           go_wp2_with fail
           go_meet
           exact ⟨_,rfl,HM_d.out⟩
       case rest =>
        obtain ⟨q,rfl,hX⟩:=hcut
        have HM_c:=Lib.hid hX
        clear hX HM_b
        have hjw:IntKind.i64.wrap ((j:Int)+1)=((j+1:Nat):Int):=by rw [i64_of (by have:=HJN.out;have:=HN.out;omega)];rfl
        cases q
        ·go_wp2_with fail
         go_roundw
         case measure=>simp [intOf];have:=HJN.out;omega
         case rel=>exact ⟨j+1,sts,stc,V3,by go_num,by have:=HJ.out.1;omega,HJN.out,HJ.out.2.2.1,by have:=HJ.out.2.2.2;omega,HM_c.out⟩
        ·go_upto_region 50 with fail
         obtain ⟨x,hx⟩:∃ x,l[j]? = some x:=⟨_,List.getElem?_eq_getElem (by rw [HLl.out];exact HJN.out)⟩
         have HXw:=Lib.hid (HS.out.w _ (List.mem_of_getElem? hx))
         have hj0:(0:Int)≤(j:Int):=by omega
         obtain ⟨sb,so,rfl⟩:=(HM_c.out.sgs eS HLl.out).ro.sl (sigCells_at hx).1
         have HTr:Hid (TrM bm wc [] wc.drew):=Lib.hid ⟨HM_c.out.maker.below (below_drewN 1),HM_c.out.maker.lt,Upd.below (below_drewN 1),λ p hp=>(by cases hp),λ p hp=>(by cases hp),List.nodup_nil⟩
         have n0:=HM_c.out.ne 0 rfl
         have ns:¬One bm sb:=ne_of_ro (HM_c.out.sgs eS HLl.out) (sigCells_at hx).1
         have s1:=(HM_c.out.sgs eS HLl.out).ro.cell (sigCells_at hx).2.1
         rw [←Nat.add_assoc] at s1
         obtain ⟨xn,xw,xg,xq⟩:=x
         dsimp only at s1
         clear hx
         have d0:=(HM_c.out.at 0 rfl).cell (i:=0) rfl
         rw [eS] at d0
         refine wp_region_webCM (bm:=bm) (w0:=wc) [.known (.pointer (some ⟨db,0,none⟩)),.known (.slice (some ⟨sb,so,none⟩) N sc),.known (.int .i64 j),.known (.pointer (some ⟨sb,so+j*4,none⟩)),.known (.pointer (some ⟨sb,so+j*4+1,none⟩)),.known (.int .i64 xw),.known (.pointer (some ⟨bm,0,none⟩)),.rel (λ v _=>∃ r:Nat,r<16∧v = .int .i64 (r:Nat)) (λ _ => []),.rel (λ v _=>∃ r:Nat,r<16∧v = .int .u64 (r:Nat)) (λ _ => []),.rel (λ v W=>∃ (L r:Nat),v = .slice (some ⟨L,0,none⟩) 1 1∧Blk W L 93 [.int .u64 (r:Nat)]∧bm<L) (λ _ => []),.rel (λ v W=>∃ (l9:List Bool) (p9:Option Addr) (c9:Nat),v = .tuple #[.slice p9 xw c9,.int .i64 0]∧l9.length=xw∧ROA (From wc.heap.size) W (.slice p9 xw c9) 1 xw (bools l9)) (λ _ => []),.rel (λ v W=>∃ (l9:List Bool) (p9:Option Addr) (c9:Nat),v = .tuple #[.slice p9 xw c9,.int .i64 0]∧l9.length=xw∧ROA (From wc.heap.size) W (.slice p9 xw c9) 1 xw (bools l9)) (λ _ => []),.rel (λ v W=>∃ (l9:List Bool) (p9:Option Addr) (c9:Nat),v = .slice p9 xw c9∧l9.length=xw∧ROA (From wc.heap.size) W (.slice p9 xw c9) 1 xw (bools l9)) (λ _ => []),.rel (λ v _=>v = .int .i64 0) (λ _ => [])] [1,1,1,1,1,1,1,1,1,1,1,1,1,2] [] 249 2 #[true,true,true,true,true,true,true,true,true,true,true,true,true,true,false,false] (by kernel_rfl) (by kernel_rfl) rfl rfl rfl (Nat.le_of_ble_eq_true rfl) ⟨Sp.MonoM.known,Sp.MonoM.known,Sp.MonoM.known,Sp.MonoM.known,Sp.MonoM.known,Sp.MonoM.known,Sp.MonoM.known,(λ _ _ _ _ h=>h),(λ _ _ _ _ h=>h),(λ _ _ _ hb ⟨L,r,h1,h2,h3⟩=>⟨L,r,h1,hb.1.blk h2 (λ e=>by have e':L=bm:=e;omega),h3⟩),(λ _ _ _ hb ⟨l9,p9,c9,h1,h2,h3⟩=>⟨l9,p9,c9,h1,h2,roa_bm h3 HM_c.out.maker.lt hb⟩),(λ _ _ _ hb ⟨l9,p9,c9,h1,h2,h3⟩=>⟨l9,p9,c9,h1,h2,roa_bm h3 HM_c.out.maker.lt hb⟩),(λ _ _ _ hb ⟨l9,p9,c9,h1,h2,h3⟩=>⟨l9,p9,c9,h1,h2,roa_bm h3 HM_c.out.maker.lt hb⟩),(λ _ _ _ _ h=>h),trivial⟩ HTr.out (λ _ _ _ _ _ h=>h) (A := ?_) ?_ ?_ ?_
         rotate_left
         ·intro u
          simp only [fillC,Sp.val,Nat.reduceBEq,cond_false,Act.put,List.setIfInBounds_toArray,List.set_cons_zero,List.set_cons_succ]
          rfl
         iterate 7 (refine ob_yes (web_opM (o:=_) rfl (λ u W hT hd Q K hK => ?_)) ?_;· (have ca0:W.cell? _=some _:=hT.bel.cell s1 ns;have ca1:W.cell? _=some _:=hT.bel.cell d0 n0;go_simp;exact hK.out _ _ (BM.refl hT.maker) rfl (λ p hp=>by cases hp) List.nodup_nil))
         refine ob_yes (web_opM (o:=_) rfl (λ u W hT hd Q K hK => ?_)) ?_
         ·(try simp only [Act.put,List.setIfInBounds_toArray,List.set_cons_zero,List.set_cons_succ] at hK)
          have ca0:W.cell? _=some _:=hT.bel.cell s1 ns
          have ca1:W.cell? _=some _:=hT.bel.cell d0 n0
          go_simp
          refine (next16 hT.maker).mono ?_;rintro e w' ⟨r9,hr9,rfl,hk,hu⟩
          exact hK.out _ _ ⟨hu,hk⟩ ⟨r9,hr9,rfl⟩ (λ p hp=>by cases hp) List.nodup_nil
         refine ob_yes (web_opM (o:=_) rfl (λ u W hT hd Q K hK => ?_)) ?_
         ·have d7:=hd 7 (by kernel_rfl)
          generalize u 7=x7 at *
          obtain ⟨r7,hr7,rfl⟩:=d7
          (try simp only [Act.put,List.setIfInBounds_toArray,List.set_cons_zero,List.set_cons_succ] at hK)
          have ca0:W.cell? _=some _:=hT.bel.cell s1 ns
          have ca1:W.cell? _=some _:=hT.bel.cell d0 n0
          have hr64:IntKind.u64.wrap (r7:Int)=(r7:Int):=IntWalk.u64_in _ (by omega)
          go_simp
          exact hK.out _ _ (BM.refl hT.maker) ⟨r7,hr7,rfl⟩ (λ p hp=>by cases hp) List.nodup_nil
         refine ob_yes (web_opM (o:=_) rfl (λ u W hT hd Q K hK => ?_)) ?_
         ·have d8:=hd 8 (by kernel_rfl)
          generalize u 8=x8 at *
          obtain ⟨r8,hr8,rfl⟩:=d8
          (try simp only [Act.put,List.setIfInBounds_toArray,List.set_cons_zero,List.set_cons_succ] at hK)
          have ca0:W.cell? _=some _:=hT.bel.cell s1 ns
          have ca1:W.cell? _=some _:=hT.bel.cell d0 n0
          go_simp
          exact hK.out _ _ (BM.below hT.maker (Below.new _ _)) ⟨_,r8,rfl,Blk.new _ _,hT.maker.lt⟩ (λ p hp=>by cases hp) List.nodup_nil
         refine ob_yes (web_opM (o:=_) rfl (λ u W hT hd Q K hK => ?_)) ?_
         ·have d7:=hd 7 (by kernel_rfl)
          generalize u 7=x7 at *
          obtain ⟨r7,hr7,rfl⟩:=d7
          have d9:=hd 9 (by kernel_rfl)
          generalize u 9=x9 at *
          obtain ⟨L9,r9_,rfl,hB9,hL9⟩:=d9
          (try simp only [Act.put,List.setIfInBounds_toArray,List.set_cons_zero,List.set_cons_succ] at hK)
          have ca0:W.cell? _=some _:=hT.bel.cell s1 ns
          have ca1:W.cell? _=some _:=hT.bel.cell d0 n0
          go_simp
          refine (new_any hB9 xw HXw.out.1 (Nat.le_trans HXw.out.2.1 (by omega))).mono ?_;rintro e w' ⟨v9,l9,rfl,hl9,hv9,hb9⟩
          obtain ⟨p9,c9,rfl,_⟩:=hv9.form
          exact hK.out _ _ (BM.below hT.maker hb9) ⟨l9,p9,c9,rfl,hl9,hv9.mono λ b hb=>Nat.le_trans hT.bel.size hb⟩ (λ p hp=>by cases hp) List.nodup_nil
         refine ob_yes (web_opM (o:=_) rfl (λ u W hT hd Q K hK => ?_)) ?_
         ·have d10:=hd 10 (by kernel_rfl)
          generalize u 10=x10 at *
          obtain ⟨l10,p10,c10_,rfl,hl10,hR10⟩:=d10
          (try simp only [Act.put,List.setIfInBounds_toArray,List.set_cons_zero,List.set_cons_succ] at hK)
          have ca0:W.cell? _=some _:=hT.bel.cell s1 ns
          have ca1:W.cell? _=some _:=hT.bel.cell d0 n0
          go_simp
          exact hK.out _ _ (BM.refl hT.maker) ⟨l10,p10,c10_,rfl,hl10,hR10⟩ (λ p hp=>by cases hp) List.nodup_nil
         refine ob_yes (web_opM (o:=_) rfl (λ u W hT hd Q K hK => ?_)) ?_
         ·have d11:=hd 11 (by kernel_rfl)
          generalize u 11=x11 at *
          obtain ⟨l11,p11,c11_,rfl,hl11,hR11⟩:=d11
          (try simp only [Act.put,List.setIfInBounds_toArray,List.set_cons_zero,List.set_cons_succ] at hK)
          have ca0:W.cell? _=some _:=hT.bel.cell s1 ns
          have ca1:W.cell? _=some _:=hT.bel.cell d0 n0
          go_simp
          exact hK.out _ _ (BM.refl hT.maker) ⟨l11,p11,c11_,rfl,hl11,hR11⟩ (λ p hp=>by cases hp) List.nodup_nil
         refine ob_pure (web_pureM (o:=_) rfl (λ u W hT hd => ?_)) ?_
         ·have d11:=hd 11 (by kernel_rfl)
          generalize u 11=x11 at *
          obtain ⟨l11,p11,c11_,rfl,hl11,hR11⟩:=d11
          have ca0:W.cell? _=some _:=hT.bel.cell s1 ns
          have ca1:W.cell? _=some _:=hT.bel.cell d0 n0
          exact ⟨_,Or.inl ⟨rfl,λ w=>rfl⟩,rfl,rfl⟩
         exact ob_nil
         intro u wx hT hok
         obtain ⟨h0,h1,h2,h3,h4,h5,h6,h7,h8,h9,h10,h11,h12,h13,_⟩:=hok
         clear h0 h1 h2 h3 h4 h5 h6 h7 h8 h9 h10 h11
         simp only [ownsC,Sp.own,Nat.reduceBEq,cond_false,List.append_nil] at hT
         have d12:=h12 (by kernel_rfl)
         clear h12
         generalize u 12=x12 at *
         obtain ⟨l12,p12,c12_,rfl,hl12,hR12⟩:=d12
         have d13:=h13 (by kernel_rfl)
         clear h13
         generalize u 13=x13 at *
         subst d13
         (try dsimp only [List.nil_append,List.cons_append] at hT)
         have HTE:=Lib.hid hT
         clear hT
         clear HTr s1 d0 n0 ns
         refine wpAny_of_held (S:=λ _=>True) _ _ _ _ ?_
         refine wpAnyH_ready (rs := [14]) (by kernel_rfl) (by simp) ?_
         refine held_cons rfl (λ K hK => ?_) AllReadyH.nil
         go_simp
         refine hK.out _ _ trivial (λ _ => ?_)
         clear hK K
         (try simp only [List.setIfInBounds_toArray,List.set_cons_zero,List.set_cons_succ])
         refine wpAnyH_ready (rs := [15]) (by kernel_rfl) (by simp) ?_
         refine held_cons rfl (λ K hK => ?_) AllReadyH.nil
         go_simp
         refine hK.out _ _ trivial (λ _ => ?_)
         clear hK K
         (try simp only [List.setIfInBounds_toArray,List.set_cons_zero,List.set_cons_succ])
         refine wpAnyH_done (by kernel_rfl) ?_ _
         have HM_d:Hid (MD bm N w1 wx (DRof (S4 l pl ps pc sts stc) V3) (S4 l pl ps pc (sts ++ [(j,l12)]) (stc ++ [.int .i64 j,.slice p12 xw c12_])) ((bsD db V3 (.slice (some ⟨b13,0,none⟩) 1 1) (.slice (some ⟨b14,0,none⟩) 2 2))) [] ((rs2 b13 b14 nmb))):=Lib.hid ((HM_c.out.call HTE.out.maker HTE.out.bel).start j l12 (v := .slice p12 xw c12_) (by rw [hl12];exact hR12.mono HM_c.out.newA))
         have HLb:=Lib.hid hl12
         clear HTE hl12 hR12 HM_c
         go_upto_region 51 with fail
         obtain ⟨pK,cK,eK⟩:∃ p c,V3 .starts = .slice p sts.length c:=ownsRow_form (HM_d.out.mem.own .starts)
         have hoa:(wx.alloc (.cells #[.int .i64 j,.slice p12 xw c12_] 95)).ownsRow w1.heap.size 95 2 (.slice pK sts.length cK) sts.length stc:=by
          rw [←eK]
          exact (HM_d.out.below (Below.new _ _)).mem.own .starts
         have hbz:w1.heap.size≤(wx.alloc (.cells #[.int .i64 j,.slice p12 xw c12_] 95)).heap.size:=(HM_d.out.below (Below.new _ _)).bel.size
         have hnw:(wx.alloc (.cells #[.int .i64 j,.slice p12 xw c12_] 95)).heap[wx.heap.size]? = some (.cells #[.int .i64 j,.slice p12 xw c12_] 95 (0,0)):=heap_alloc_new _ _
         have dK:=(HM_d.out.at 0 rfl).cell (i:=6) rfl
         rw [eK] at dK
         have hpl8:sts.length≤8:=by have h1:=HJ.out;have h2:=HN.out;omega
         obtain ⟨nK,hnK⟩:∃ np,sts.length=np:=⟨_,rfl⟩
         have HNk:=Lib.hid hnK
         rw [hnK] at hoa dK hpl8
         clear hnK
         go_upto_region 47 with (at_builtin;go_must (refine wpList_app rfl _ _ 29 rfl TStarts w1.heap.size (.slice pK nK cK) nK stc rfl hoa wx.heap.size 1 1 [.int .i64 j,.slice p12 xw c12_] rfl #[.int .i64 j,.slice p12 xw c12_] hnw rfl rfl (by simp [Value.oneCell']) Nat.one_pos (by omega) (by omega) hbz ?_;intro g9 cap9 w9 happ;have HX9:Hid (MD bm N w1 w9 (DRof (S4 l pl ps pc (sts ++ [(j,l12)]) (stc ++ [.int .i64 j,.slice p12 xw c12_])) (updV V3 .starts (.slice (some ⟨g9,0,none⟩) (nK+1) cap9))) (S4 l pl ps pc (sts ++ [(j,l12)]) (stc ++ [.int .i64 j,.slice p12 xw c12_])) ((wx.heap.size,95, [.int .i64 j,.slice p12 xw c12_])::(bsD db V3 (.slice (some ⟨b13,0,none⟩) 1 1) (.slice (some ⟨b14,0,none⟩) 2 2))) [] (rs2 b13 b14 nmb)):=Lib.hid (by rw [←HNk.out];rw [←HNk.out,←eK] at happ;have h:=MD.app (HM_d.out.lay 95 [.int .i64 j,.slice p12 xw c12_]) .starts happ;rw [updZ_V (S4 l pl ps pc sts stc) (S4 l pl ps pc (sts ++ [(j,l12)]) (stc ++ [.int .i64 j,.slice p12 xw c12_])) V3 .starts _ (by simp only [DRof,updV,S4,S2,S0,if_pos,List.length_append,List.length_singleton] <;> rfl) (λ k' hk'=>by cases k' <;> first | exact absurd rfl hk' | rfl)] at h;exact h);have d9:=(HX9.out.at 1 rfl).cell (i:=6) rfl;have df9:=(HX9.out.at 1 rfl).frz 6;rw [eK,HNk.out] at d9;clear happ))
         have HM_z:Hid (MD bm N w1 (w9.setCell ⟨db,6,none⟩ (.slice (some ⟨g9,0,none⟩) (nK+1) cap9)) (DRof (S4 l pl ps pc (sts ++ [(j,l12)]) (stc ++ [.int .i64 j,.slice p12 xw c12_])) (updV V3 .starts (.slice (some ⟨g9,0,none⟩) (nK+1) cap9))) (S4 l pl ps pc (sts ++ [(j,l12)]) (stc ++ [.int .i64 j,.slice p12 xw c12_])) (bsD db (updV V3 .starts (.slice (some ⟨g9,0,none⟩) (nK+1) cap9)) (.slice (some ⟨b13,0,none⟩) 1 1) (.slice (some ⟨b14,0,none⟩) 2 2)) [] (rs2 b13 b14 nmb)):=Lib.hid ((HX9.out.set 1 rfl 6 (.slice (some ⟨g9,0,none⟩) (nK+1) cap9)).drop 1 0)
         generalize w9.setCell ⟨db,6,none⟩ (.slice (some ⟨g9,0,none⟩) (nK+1) cap9)=w13 at *
         clear HX9 d9 df9 dK hoa hbz hnw HM_d eK hpl8
         go_wp2_with fail
         go_roundw
         case measure=>simp [intOf];have:=HJN.out;omega
         case rel=>exact ⟨j+1,_,_,_,by go_num,by have:=HJ.out.1;omega,HJN.out,HJ.out.2.2.1.app ⟨HJN.out,by rw [HLb.out];exact ⟨HXw.out.1,HXw.out.2.1⟩⟩,by rw [List.length_append];have:=HJ.out.2.2.2;simp;omega,HM_z.out⟩
      ·have hji:¬(j:Int)<(N:Int):=by omega
       clear hlt hjN
       go_wp2_with fail
       go_loopw [22] (λ kv wr=>∃ (k:Nat) (ol:List Int) (V4:DK→Value),kv = .int .i64 (k:Nat)∧k≤N∧ol.length≤k∧MD bm N w1 wr (DRof (S5 l pl ps pc sts stc ol) V4) (S5 l pl ps pc sts stc ol) ((bsD db V4 (.slice (some ⟨b13,0,none⟩) 1 1) (.slice (some ⟨b14,0,none⟩) 2 2))) [] (rs2 b13 b14 nmb)) (λ kv _=>N-(intOf kv).toNat)
       case atStart=>exact ⟨0, [],V3,rfl,Nat.zero_le _,Nat.zero_le _,HM_a.out⟩
       case round =>
        obtain ⟨k,ol,V4,rfl,hkN,hol,hX⟩:=hrel
        have HM_b:=Lib.hid hX
        have HKo:=Lib.hid (And.intro hkN hol)
        clear hX hol HM_a
        obtain ⟨sp,sc,eS⟩:∃ sp sc,V4 .sigs = .slice sp N sc:=by
         obtain ⟨sp,sc,e⟩:=ownsRow_form (HM_b.out.mem.own .sigs)
         exact ⟨sp,sc,by rw [←HLl.out];exact e⟩
        by_cases hlt:k<N
        ·as_aux_lemma =>
         have hki:(k:Int)<(N:Int):=by omega
         have hk0:(0:Int)≤(k:Int):=by omega
         have HKN:=Lib.hid hlt
         clear hlt hkN
         have hkw:IntKind.i64.wrap ((k:Int)+1)=((k+1:Nat):Int):=by rw [i64_of (by have:=HKN.out;have:=HN.out;omega)];rfl
         obtain ⟨x,hx⟩:∃ x,l[k]? = some x:=⟨_,List.getElem?_eq_getElem (by rw [HLl.out];exact HKN.out)⟩
         obtain ⟨sb,so,rfl⟩:=(HM_b.out.sgs eS HLl.out).ro.sl (sigCells_at hx).1
         have s3:=(HM_b.out.sgs eS HLl.out).ro.cell (sigCells_at hx).2.2.2
         rw [←Nat.add_assoc] at s3
         obtain ⟨xn,xw,xg,xq⟩:=x
         dsimp only at s3
         clear hx
         have d0:=(HM_b.out.at 0 rfl).cell (i:=0) rfl
         rw [eS] at d0
         go_upto_region 55 with fail
         go_cut [273] from 262 to 274 (λ v wx=>∃ q:Bool,v = .bool q∧MD bm N w1 wx (DRof (S5 l pl ps pc sts stc ol) V4) (S5 l pl ps pc sts stc ol) ((bsD db V4 (.slice (some ⟨b13,0,none⟩) 1 1) (.slice (some ⟨b14,0,none⟩) 2 2))) [] (rs2 b13 b14 nmb))
         case first =>
          by_cases h0:xq=0
          ·subst h0
           go_wp2_with fail
           refine (next2 HM_b.out.maker).mono ?_;rintro e w6 ⟨r2,hr2,rfl,hk9,hu9⟩
           have HM_c:=Lib.hid (HM_b.out.call hk9 hu9);clear hk9 hu9 hr2
           go_wp2_with fail
           go_meet
           exact ⟨_,rfl,HM_c.out⟩
          ·have h0b:((xq:Int) == 0)=false:=by simp;omega
           clear h0
           go_wp2_with fail
           go_meet
           exact ⟨_,rfl,HM_b.out⟩
         case rest =>
          obtain ⟨q,rfl,hX⟩:=hcut
          have HM_c:=Lib.hid hX
          clear hX HM_b d0 s3
          cases q
          ·go_wp2_with fail
           go_roundw
           case measure=>simp [intOf];have:=HKN.out;omega
           case rel=>exact ⟨k+1,ol,V4,by go_num,HKN.out,by have:=HKo.out.2;omega,HM_c.out⟩
          ·go_upto_region 56 with fail
           obtain ⟨pK,cK,eK⟩:∃ p c,V4 .outs = .slice p ol.length c:=ownsRow_form (HM_c.out.mem.own .outs)
           have hoa:(wc.alloc (.cells #[.int .i64 k] 3)).ownsRow w1.heap.size 3 1 (.slice pK ol.length cK) ol.length (ints ol):=by
            rw [←eK]
            exact (HM_c.out.below (Below.new _ _)).mem.own .outs
           have hbz:w1.heap.size≤(wc.alloc (.cells #[.int .i64 k] 3)).heap.size:=(HM_c.out.below (Below.new _ _)).bel.size
           have hnw:(wc.alloc (.cells #[.int .i64 k] 3)).heap[wc.heap.size]? = some (.cells #[.int .i64 k] 3 (0,0)):=heap_alloc_new _ _
           have dK:=(HM_c.out.at 0 rfl).cell (i:=3) rfl
           rw [eK] at dK
           have hpl8:ol.length≤8:=by have h1:=HKo.out;have h2:=HN.out;omega
           obtain ⟨nK,hnK⟩:∃ np,ol.length=np:=⟨_,rfl⟩
           have HNk:=Lib.hid hnK
           rw [hnK] at hoa dK hpl8
           clear hnK
           go_upto_region 54 with (at_builtin;go_must (refine wpList_app rfl _ _ 26 rfl TInts w1.heap.size (.slice pK nK cK) nK (ints ol) rfl hoa wc.heap.size 1 1 [.int .i64 k] rfl #[.int .i64 k] hnw rfl rfl (by simp [Value.oneCell']) Nat.one_pos (by omega) (by omega) hbz ?_;intro g9 cap9 w9 happ;have HX9:Hid (MD bm N w1 w9 (DRof (S5 l pl ps pc sts stc (ol ++ [(k:Int)])) (updV V4 .outs (.slice (some ⟨g9,0,none⟩) (nK+1) cap9))) (S5 l pl ps pc sts stc (ol ++ [(k:Int)])) ((wc.heap.size,3, [.int .i64 k])::(bsD db V4 (.slice (some ⟨b13,0,none⟩) 1 1) (.slice (some ⟨b14,0,none⟩) 2 2))) [] (rs2 b13 b14 nmb)):=Lib.hid (by rw [←HNk.out];rw [←HNk.out,←eK] at happ;have h:=MD.app (HM_c.out.lay 3 [.int .i64 k]) .outs happ;rw [updZ_V (S5 l pl ps pc sts stc ol) (S5 l pl ps pc sts stc (ol ++ [(k:Int)])) V4 .outs _ (by simp only [DRof,updV,S4,S2,S5,S0,if_pos,List.length_append,List.length_singleton,ints,List.map_append,List.map_cons,List.map_nil] <;> rfl) (λ k' hk'=>by cases k' <;> first | exact absurd rfl hk' | rfl)] at h;exact h.re l pl l.length (ol ++ [(k:Int)]));have d9:=(HX9.out.at 1 rfl).cell (i:=3) rfl;have df9:=(HX9.out.at 1 rfl).frz 3;rw [eK,HNk.out] at d9;clear happ))
           have HM_z:Hid (MD bm N w1 (w9.setCell ⟨db,3,none⟩ (.slice (some ⟨g9,0,none⟩) (nK+1) cap9)) (DRof (S5 l pl ps pc sts stc (ol ++ [(k:Int)])) (updV V4 .outs (.slice (some ⟨g9,0,none⟩) (nK+1) cap9))) (S5 l pl ps pc sts stc (ol ++ [(k:Int)])) (bsD db (updV V4 .outs (.slice (some ⟨g9,0,none⟩) (nK+1) cap9)) (.slice (some ⟨b13,0,none⟩) 1 1) (.slice (some ⟨b14,0,none⟩) 2 2)) [] (rs2 b13 b14 nmb)):=Lib.hid ((HX9.out.set 1 rfl 3 (.slice (some ⟨g9,0,none⟩) (nK+1) cap9)).drop 1 0)
           generalize w9.setCell ⟨db,3,none⟩ (.slice (some ⟨g9,0,none⟩) (nK+1) cap9)=w13 at *
           clear HX9 d9 df9 dK hoa hbz hnw HM_c eK hpl8
           go_wp2_with fail
           go_roundw
           case measure=>simp [intOf];have:=HKN.out;omega
           case rel=>exact ⟨k+1,_,_,by go_num,HKN.out,by rw [List.length_append];have:=HKo.out.2;simp;omega,HM_z.out⟩
        ·have hki:¬(k:Int)<(N:Int):=by omega
         clear hlt hkN
         obtain ⟨pL,nL,cL,eL⟩:∃ p n c,V4 .places = .slice p n c:=by
          obtain ⟨p,c,e⟩:=ownsRow_form (HM_b.out.mem.own .places)
          exact ⟨p,_,c,e⟩
         obtain ⟨pO,nO,cO,eO⟩:∃ p n c,V4 .outs = .slice p n c:=by
          obtain ⟨p,c,e⟩:=ownsRow_form (HM_b.out.mem.own .outs)
          exact ⟨p,_,c,e⟩
         obtain ⟨pT,nT,cT,eT⟩:∃ p n c,V4 .starts = .slice p n c:=by
          obtain ⟨p,c,e⟩:=ownsRow_form (HM_b.out.mem.own .starts)
          exact ⟨p,_,c,e⟩
         obtain ⟨pP,cP,eP⟩:∃ p c,V4 .procs = .slice p ps.length c:=ownsRow_form (HM_b.out.mem.own .procs)
         have d0:=(HM_b.out.at 0 rfl).cell (i:=0) rfl
         rw [eS] at d0
         have d1:=(HM_b.out.at 0 rfl).cell (i:=1) rfl
         rw [eL] at d1
         have d2:=(HM_b.out.at 0 rfl).cell (i:=2) rfl
         have d3:=(HM_b.out.at 0 rfl).cell (i:=3) rfl
         rw [eO] at d3
         have d4:=(HM_b.out.at 0 rfl).cell (i:=4) rfl
         rw [eP] at d4
         have d5:=(HM_b.out.at 0 rfl).cell (i:=5) rfl
         have d6:=(HM_b.out.at 0 rfl).cell (i:=6) rfl
         rw [eT] at d6
         have HZ:=Lib.hid (HB0.out.next HM_b.out.bel)
         have z0:=HZ.out.cell (i:=0) rfl
         have zf0:=HZ.out.frz 0
         have z1:=HZ.out.cell (i:=1) rfl
         have zf1:=HZ.out.frz 1
         have z2:=HZ.out.cell (i:=2) rfl
         have zf2:=HZ.out.frz 2
         have z3:=HZ.out.cell (i:=3) rfl
         have zf3:=HZ.out.frz 3
         have z4:=HZ.out.cell (i:=4) rfl
         have zf4:=HZ.out.frz 4
         have z5:=HZ.out.cell (i:=5) rfl
         have zf5:=HZ.out.frz 5
         have z6:=HZ.out.cell (i:=6) rfl
         have zf6:=HZ.out.frz 6
         have HZ7:=Lib.hid (((((((HZ.out.set 0 (.slice sp N sc)).set 1 (.slice pL nL cL)).set 2 (.slice (some ⟨b13,0,none⟩) 1 1)).set 3 (.slice pO nO cO)).set 4 (.slice pP ps.length cP)).set 5 (.slice (some ⟨b14,0,none⟩) 2 2)).set 6 (.slice pT nT cT))
         have y0:=HZ7.out.cell (i:=0) rfl
         have y1:=HZ7.out.cell (i:=1) rfl
         have y2:=HZ7.out.cell (i:=2) rfl
         have y3:=HZ7.out.cell (i:=3) rfl
         have y4:=HZ7.out.cell (i:=4) rfl
         have y5:=HZ7.out.cell (i:=5) rfl
         have y6:=HZ7.out.cell (i:=6) rfl
         go_wp2_with fail
         refine bodyPost_ret (v := .agg #[.slice sp N sc,.slice pL nL cL,.slice (some ⟨b13,0,none⟩) 1 1,.slice pO nO cO,.slice pP ps.length cP,.slice (some ⟨b14,0,none⟩) 2 2,.slice pT nT cT]) (by simp [results,Try.results5,go_sem,y0,y1,y2,y3,y4,y5,y6]) rfl ?_
         have hu:=upd7 wr w.heap.size (.slice sp N sc) (.slice pL nL cL) (.slice (some ⟨b13,0,none⟩) 1 1) (.slice pO nO cO) (.slice pP ps.length cP) (.slice (some ⟨b14,0,none⟩) 2 2) (.slice pT nT cT)
         generalize (((((((wr.setCell ⟨w.heap.size,0,none⟩ (.slice sp N sc)).setCell ⟨w.heap.size,1,none⟩ (.slice pL nL cL)).setCell ⟨w.heap.size,2,none⟩ (.slice (some ⟨b13,0,none⟩) 1 1)).setCell ⟨w.heap.size,3,none⟩ (.slice pO nO cO)).setCell ⟨w.heap.size,4,none⟩ (.slice pP ps.length cP)).setCell ⟨w.heap.size,5,none⟩ (.slice (some ⟨b14,0,none⟩) 2 2)).setCell ⟨w.heap.size,6,none⟩ (.slice pT nT cT))=W9 at *
         have hw1:w.heap.size<w1.heap.size:=HB0.out.lt
         have hA:∀ b,w1.heap.size≤b→b<wr.heap.size→b<W9.heap.size∧W9.heap[b]? = wr.heap[b]? := λ b h1 h2=>⟨Nat.lt_of_lt_of_le h2 hu.size,hu.block b h2 (λ e=>by have e':b=w.heap.size:=e;omega)⟩
         have rS:=(HM_b.out.rowA .sigs).turn (A':=λ k=>k<W9.heap.size) λ b h1 h2=>hA b h1.1 h2
         have rL:=(HM_b.out.rowA .places).turn (A':=λ k=>k<W9.heap.size) λ b h1 h2=>hA b h1.1 h2
         have rP:=(HM_b.out.rowA .procs).turn (A':=λ k=>k<W9.heap.size) λ b h1 h2=>hA b h1.1 h2
         have rT:=(HM_b.out.rowA .starts).turn (A':=λ k=>k<W9.heap.size) λ b h1 h2=>hA b h1.1 h2
         have rI:=(HM_b.out.r 1 rfl).turn (A':=λ k=>k<W9.heap.size) λ b h1 h2=>hA b h1.1 h2
         have gP:=HM_b.out.pg.turn ER.stay (A':=λ k=>k<W9.heap.size) λ b h1 h2=>hA b h1.1 h2
         have gT:=HM_b.out.st.turn (A':=λ k=>k<W9.heap.size) λ b h1 h2=>hA b h1.1 h2
         have eL2:V4 .places = .slice pL N cL:=by
          obtain ⟨p,c,e⟩:=ownsRow_form (HM_b.out.mem.own .places)
          have e2:=eL.symm.trans e
          simp only [Value.slice.injEq] at e2
          rw [eL,e2.2.1];simp only [DRof,S5,S4,S2,S0,HLl.out]
         have enL:nL=N:=by have e2:=eL.symm.trans eL2;simp only [Value.slice.injEq] at e2;exact e2.2.1
         have enT:nT=sts.length:=by
          obtain ⟨p,c,e⟩:=ownsRow_form (HM_b.out.mem.own .starts)
          have e2:=eT.symm.trans e
          simp only [Value.slice.injEq] at e2
          exact e2.2.1
         subst enL enT
         have hN:=HLl.out
         subst hN
         simp only [DRof,S5,S4,S2,S0,dks] at rS rL rP rT
         rw [eS] at rS
         rw [eL] at rL
         rw [eP] at rP
         rw [eT] at rT
         refine ⟨l,ps,sts,sp,sc,pl,pL,cL,_,_,pO,nO,cO,pP,cP,pc,_,_,_,pT,cT,stc,rfl,⟨⟨⟨rS,HS.out.pos,by have:=HS.out.le;omega,λ x hx=>by have:=HS.out.w x hx;unfold Sg.size;split <;> omega⟩,rI,by omega,rP,gP,λ q hq=>⟨(HP.out.1.ok q hq).1,by have:=(HP.out.1.ok q hq).2.1;omega⟩,by have:=HP.out.2.1;have:=HP.out.2.2.2;have:=HN.out.2;omega,λ x hx=>by have:=HS.out.w x hx;omega⟩,rL,rT,gT,HS.out,HP.out.1,by have:=HP.out.2.1;have:=HP.out.2.2.2;omega,HJ.out.2.2.1,by have:=HJ.out.2.2.2;have:=HJ.out.2.1;omega⟩,?_⟩
         exact (Hb1.out.1.trans (HM_b.out.bel.mono (Nat.le_of_lt hw1))).trans (hu.lowF (λ b hb=>Nat.le_of_eq (Eq.symm hb)) (Nat.le_trans (Nat.le_of_lt hw1) HM_b.out.bel.size))
end Go.Proofs.Ytlklleaocbnbcaa
