import Derived.Test.YtcifiibpiooeiaaB1
import Derived.Test.YtcifiibpiooeiaaP3
import Derived.Deep.CutRange
import Derived.Deep.CutBlock
namespace Go.Proofs.Ytcifiibpiooeiaa
set_option linter.unusedVariables false
open Go.RowKit

theorem RO.takeS {w : World} {p : Option Addr} {n c k c' : Nat} {cs : List Value} (h : RO w (.slice p n c) 1 n cs) (hk : k ≤ n) : RO w (.slice p k c') 1 k (cs.take k) := by
  obtain ⟨h1, q, d, e, hr⟩ := h
  cases e
  refine ⟨by rw [List.length_take]; omega, _, _, rfl, fun j u hj => ?_⟩
  rw [List.getElem?_take] at hj
  split at hj
  · exact hr j u hj
  · cases hj
theorem RO.dropS {w : World} {b o n c k c' : Nat} {q : Option Addr} {cs : List Value} (h : RO w (.slice (some ⟨b, o, none⟩) n c) 1 n cs) (hk : k ≤ n) (hq : k < n → q = some ⟨b, o + k, none⟩) : RO w (.slice q (n - k) c') 1 (n - k) (cs.drop k) := by
  obtain ⟨h1, q', d, e, hr⟩ := h
  cases e
  refine ⟨by rw [List.length_drop]; omega, _, _, rfl, fun j u hj => ?_⟩
  rw [List.getElem?_drop] at hj
  obtain ⟨b', o', e, hc⟩ := hr (k + j) u hj
  cases e
  have hlt : k + j < cs.length := by
    rcases Nat.lt_or_ge (k + j) cs.length with h | h
    · exact h
    · rw [List.getElem?_eq_none h] at hj; cases hj
  exact ⟨b, o + k, hq (by omega), by rw [← hc, Nat.add_assoc]⟩
theorem own_form {w : World} {base e n : Nat} {v : Value} {cs : List Value} (h : w.ownsRow base e 1 v n cs) : ∃ p c, v = .slice p n c ∧ n ≤ c ∧ (0 < n → ∃ g, p = some ⟨g, 0, none⟩) := by
  rcases h.2 with ⟨rfl, rfl⟩ | ⟨g, cap, cur, rfl, _, _, h1, _⟩
  · exact ⟨none, 0, rfl, Nat.le_refl _, fun h => absurd h (Nat.lt_irrefl _)⟩
  · exact ⟨_, _, rfl, h1, fun _ => ⟨g, rfl⟩⟩

/-- a row of one's own under way: all below wc's end is as it was -/
structure Stp (base : Nat) (wc : World) (w : World) (e : Nat) (v : Value) (n : Nat) (cs : List Value) : Prop where
  own : w.ownsRow base e 1 v n cs
  ge : ∀ j, v.ownBlock = some j → wc.heap.size ≤ j
  bel : Below wc.heap.size wc w
theorem Stp.new {base : Nat} {wc : World} (e : Nat) (hb : base ≤ wc.heap.size) : Stp base wc (wc.alloc (.cells #[] e)) e (.slice (some ⟨wc.heap.size, 0, none⟩) 0 0) 0 [] :=
  ⟨(Blk.new (w := wc) e []).own (n := 0) (size := 1) (by simp) (Nat.zero_le _) base hb, fun j hj => by simp only [Value.ownBlock, Option.some.injEq] at hj; omega, Below.new _ _⟩
theorem Stp.alloc {base : Nat} {wc w : World} {e : Nat} {v : Value} {n : Nat} {cs : List Value} (h : Stp base wc w e v n cs) (o : Obj) : Stp base wc (w.alloc o) e v n cs :=
  ⟨h.own.alloc o, h.ge, h.bel.alloc h.bel.size o⟩
theorem Stp.below {base : Nat} {wc w w' : World} {e : Nat} {v : Value} {n : Nat} {cs : List Value} (h : Stp base wc w e v n cs) (hb : Below w.heap.size w w') : Stp base wc w' e v n cs :=
  ⟨ownsRow_below h.own hb, h.ge, h.bel.trans (hb.mono h.bel.size)⟩
theorem Stp.app {base : Nat} {wc w w' : World} {e : Nat} {v v' : Value} {n m : Nat} {cs ds : List Value} (h : Stp base wc w e v n cs) (ha : AppR base e 1 w v m ds v' w') : Stp base wc w' e v' m ds :=
  ⟨ha.own, fun j hj => by
    rcases ha.at_ with e | e
    · rw [e] at hj; exact h.ge j hj
    · rw [e] at hj; cases hj; exact h.bel.size, ha.below h.bel h.bel.size h.ge⟩
theorem ints_take (l : List Int) (k : Nat) : (ints l).take k = ints (l.take k) := by simp [ints]
theorem ints_drop (l : List Int) (k : Nat) : (ints l).drop k = ints (l.drop k) := by simp [ints]
theorem ints_app (a b : List Int) : ints a ++ ints b = ints (a ++ b) := by simp [ints]
theorem ro_one {w : World} (t : Nat) (x : Value) : RO (w.alloc (.cells #[x] t)) (.slice (some ⟨w.heap.size, 0, none⟩) 1 1) 1 1 [x] :=
  ⟨rfl, _, _, rfl, fun j u hj => ⟨_, 0, rfl, by rw [Nat.zero_add]; exact (Blk.new (w := w) t [x]).cell hj⟩⟩

/-- what the reference's Plain hands back -/
def RPlainR (w : World) (l : List Int) (e : Ending) (w' : World) : Prop :=
  (taut l = true → e = .returned (.tuple #[.slice none 0 0, .bool false])) ∧ (taut l = false → ∃ v, e = .returned (.tuple #[v, .bool true]) ∧ w'.ownsRow w.heap.size 3 1 v (norm l).length (ints (norm l))) ∧ Below w.heap.size w w'

set_option maxRecDepth 100000 in
set_option maxHeartbeats 8000000 in
theorem rplain_any {w : World} {v : Value} {l : List Int} (hv : RO w v 1 l.length (ints l)) (hn : l.length ≤ 1000000) (hb : ∀ x ∈ l, x ≠ 0 ∧ x.natAbs ≤ 1000000000) :
    Calls Try.prog 54 #[v] w (RPlainR w l) := by
  obtain ⟨p, c, rfl⟩ := hv.form
  obtain ⟨n, hnl⟩ : ∃ n, l.length = n := ⟨_, rfl⟩
  have HN := Lib.hid (And.intro hnl (And.intro hn hb))
  rw [hnl] at hv hn ⊢
  have hni : (n : Int) ≤ 1000000 := by omega
  have HV := Lib.hid hv
  clear hv hn hb hnl
  go_enter Try.func54, Try.ntmps54
  go_wp2_with fail
  go_loopw [4, 5] (fun ov iv wr => ∃ i : Nat, i ≤ n ∧ iv = .int .i64 i ∧ wr.ownsRow w.heap.size 3 1 ov (norm (l.take i)).length (ints (norm (l.take i))) ∧ taut (l.take i) = false ∧ Below w.heap.size w wr) (fun _ iv _ => n - (intOf iv).toNat)
  case atStart => exact ⟨0, Nat.zero_le _, rfl, World.ownsRow_nil _ _ _ _, rfl, Below.refl _ _⟩
  case round =>
    obtain ⟨i, hi, rfl, hown, ht, hbel⟩ := hrel
    generalize wr = W0 at *
    obtain ⟨po, co, rfl, hco, hpo⟩ := own_form hown
    by_cases hlt : i < n
    · obtain ⟨N, hNe⟩ : ∃ N, norm (l.take i) = N := ⟨_, rfl⟩
      obtain ⟨M, hMe⟩ : ∃ M, N.length = M := ⟨_, rfl⟩
      obtain ⟨x, hxe⟩ : ∃ x, l.getD i 0 = x := ⟨_, rfl⟩
      have hat := ints_at l i (by rw [HN.out.1]; exact hlt)
      obtain ⟨bl, ol, rfl⟩ := HV.out.sl hat
      have f0 := (HV.out.below hbel).cell hat
      rw [hxe] at f0
      rw [hNe] at hown hco hpo ⊢
      rw [hMe] at hown hco hpo ⊢
      have hmem : x ∈ l := by rw [← hxe]; simp [List.getD, List.getElem?_eq_getElem (show i < l.length by rw [HN.out.1]; exact hlt)]
      have hMn : M ≤ n := by rw [← hMe, ← hNe]; exact Nat.le_trans (norm_len _) (by rw [List.length_take]; omega)
      have HI := Lib.hid (And.intro hown (And.intro ht (And.intro hbel (And.intro hNe (And.intro hMe (And.intro hxe (And.intro (HN.out.2.2 x hmem) (And.intro hlt (And.intro hMn (And.intro hco hpo))))))))))
      have hii : (i : Int) < n := by omega
      have hMi : (M : Int) ≤ 1000000 := by omega
      have hxb : IntKind.i64.wrap (-x) = -x := i64_of (by have := (HN.out.2.2 x hmem).2; omega)
      have hiw : IntKind.i64.wrap ((i : Int) + 1) = (i : Int) + 1 := i64_of (by omega)
      clear hown ht hNe hMe hxe hmem hlt hMn hat hi hco hpo
      go_upto_block 2 with fail
      go_cut [6, 7, 75] from 8 (fun kv sv ev wx => ev = undef ∧ ∃ (k : Nat) (same : Bool), kv = .int .i64 k ∧ sv = .bool same ∧ Gone N x k same ∧ (k = N.length ∨ (k < N.length ∧ x.natAbs < (N.getD k 0).natAbs)) ∧ Below W0.heap.size W0 wx)
      case first =>
        go_wp2_with fail
        go_loopw [6, 7] (fun kv sv wx => ∃ (k : Nat) (same : Bool), kv = .int .i64 k ∧ sv = .bool same ∧ Gone N x k same ∧ Below W0.heap.size W0 wx) (fun kv _ _ => M - (intOf kv).toNat)
        case atStart => exact ⟨0, false, rfl, rfl, Gone.zero _ _, Below.refl _ _⟩
        case round =>
          obtain ⟨k, same, rfl, rfl, hg, hbr⟩ := hrel
          have HG := Lib.hid (And.intro hg hbr)
          have f1 := (hbr.cell (p := ⟨bl, ol + i, none⟩) (World.block_lt_of_cell? _ _ f0)).trans f0
          by_cases hlt : k < M
          · obtain ⟨g, rfl⟩ := HI.out.2.2.2.2.2.2.2.2.2.2 (by omega)
            have hc := ((RO.own HI.out.1).below hbr).cell (ints_at N k (by rw [HI.out.2.2.2.2.1]; exact hlt))
            simp only [Nat.zero_add] at hc
            obtain ⟨y, hy⟩ : ∃ y, N.getD k 0 = y := ⟨_, rfl⟩
            rw [hy] at hc
            have hyN : y ∈ N := by rw [← hy]; simp [List.getD, List.getElem?_eq_getElem (show k < N.length by rw [HI.out.2.2.2.2.1]; exact hlt)]
            have hyb : y.natAbs ≤ 1000000000 := (HN.out.2.2 y (List.mem_of_mem_take ((norm_mem _ _).1 (by rw [HI.out.2.2.2.1]; exact hyN)))).2
            have hki : (k : Int) < M := by omega
            have hkw : IntKind.i64.wrap ((k : Int) + 1) = (k : Int) + 1 := i64_of (by omega)
            have HAy := Lib.hid (fun n => abs_any y (by omega) (wr.drewN n))
            have HAx := Lib.hid (fun n => abs_any x (by have := HI.out.2.2.2.2.2.2.1.2; omega) (wr.drewN n))
            have HY := Lib.hid (And.intro hy hlt)
            obtain ⟨ay, hay⟩ : ∃ a, y.natAbs = a := ⟨_, rfl⟩
            obtain ⟨ax, hax⟩ : ∃ a, x.natAbs = a := ⟨_, rfl⟩
            rw [hay] at HAy
            rw [hax] at HAx
            have HA := Lib.hid (And.intro hay hax)
            clear hg hbr hy hyN hyb hlt hay hax f0
            by_cases hle : ay ≤ ax
            · have hlei : (ay : Int) ≤ ax := by omega
              have HL := Lib.hid hle
              clear hle
              go_wp2_with fail
              go_quiet (first | (go_at_call 48; refine Calls.quiet_of_same ((HAy.out _).mono fun e w' ⟨he, hw⟩ => ⟨he, hw.symm⟩)) | (go_at_call 48; refine Calls.quiet_of_same ((HAx.out _).mono fun e w' ⟨he, hw⟩ => ⟨he, hw.symm⟩)))
              by_cases he : y = -x
              · have hd8 : (y == -x) = true := by simp [he]
                have HE := Lib.hid he
                clear he
                go_wp2_with fail
                go_quiet (fail)
                go_wp2_with fail
                go_ret2
                have htt : taut l = true := taut_hit (i := i) (j := k) (by rw [HN.out.1]; exact HI.out.2.2.2.2.2.2.2.1) (by rw [HI.out.2.2.2.1, HI.out.2.2.2.2.1]; exact HY.out.2) (by rw [HI.out.2.2.2.1, HI.out.2.2.2.2.2.1, HY.out.1]; exact HE.out)
                refine ⟨fun _ => rfl, fun h => (by rw [htt] at h; cases h), ?_⟩
                exact ((HI.out.2.2.1.trans (HG.out.2.mono HI.out.2.2.1.size)).trans (below_drewN _)).trans (below_drewN _)
              · have hd8 : (y == -x) = false := by simp [he]
                have HE := Lib.hid he
                clear he
                go_wp2_with fail
                go_quiet (fail)
                go_wp2_with fail
                have hgs := HG.out.1.step (by rw [HI.out.2.2.2.2.1]; exact HY.out.2) (by rw [HY.out.1, HA.out.1, HA.out.2]; exact HL.out) (by rw [HY.out.1]; exact HE.out)
                rw [HY.out.1] at hgs
                have HGS := Lib.hid hgs
                clear hgs
                cases same with
                | true =>
                  go_quiet (fail)
                  go_wp2_with fail
                  go_roundw
                  case rel => exact ⟨k + 1, true, by go_num, rfl, by simpa using HGS.out, HG.out.2.trans (below_drewN _)⟩
                  case measure => have := HY.out.2; simp [intOf]; omega
                | false =>
                  obtain ⟨q, hq⟩ : ∃ q, (y == x) = q := ⟨_, rfl⟩
                  have hq' : Hid ((false || (y == x)) = q) := Lib.hid (by rw [hq]; rfl)
                  go_quiet (fail)
                  go_wp2_with fail
                  go_roundw
                  case rel => exact ⟨k + 1, q, by go_num, by first | rfl | (congr 1), by have := HGS.out; rwa [hq'.out] at this, HG.out.2.trans (below_drewN _)⟩
                  case measure => have := HY.out.2; simp [intOf]; omega
            · have hlei : (ax : Int) < ay := by omega
              have hd : decide ((ay : Int) ≤ ax) = false := decide_eq_false (by omega)
              have HL := Lib.hid hle
              clear hle
              go_wp2_with fail
              go_quiet (first | (go_at_call 48; refine Calls.quiet_of_same ((HAy.out _).mono fun e w' ⟨he, hw⟩ => ⟨he, hw.symm⟩)) | (go_at_call 48; refine Calls.quiet_of_same ((HAx.out _).mono fun e w' ⟨he, hw⟩ => ⟨he, hw.symm⟩)))
              go_wp2_with fail
              go_meet
              exact ⟨rfl, k, same, rfl, rfl, HG.out.1, .inr ⟨by rw [HI.out.2.2.2.2.1]; exact HY.out.2, by rw [HY.out.1, HA.out.1, HA.out.2]; have := HL.out; omega⟩, HG.out.2.trans (below_drewN _)⟩
          · obtain rfl : k = M := by have := HG.out.1.1; have := HI.out.2.2.2.2.1; omega
            clear hg hbr hlt f0
            go_wp2_with fail
            go_quiet (fail)
            go_wp2_with fail
            go_meet
            exact ⟨rfl, k, same, rfl, rfl, HG.out.1, .inl HI.out.2.2.2.2.1.symm, HG.out.2.trans (below_drewN _)⟩
      case rest =>
        obtain ⟨rfl, k, same, rfl, rfl, hg, hend, hbr⟩ := hcut
        have hfin := Gone.done (l := l) (i := i) (k := k) (same := same) (by rw [HN.out.1]; exact HI.out.2.2.2.2.2.2.2.1) (by rw [HI.out.2.2.2.2.2.1]; exact HI.out.2.2.2.2.2.2.1.1) (by rw [HI.out.2.2.2.1, HI.out.2.2.2.2.2.1]; exact hg) HI.out.2.1 (by rw [HI.out.2.2.2.1, HI.out.2.2.2.2.2.1]; exact hend)
        rw [HI.out.2.2.2.1, HI.out.2.2.2.2.2.1] at hfin
        have hkM : k ≤ M := by have := hg.1; rw [HI.out.2.2.2.2.1] at this; exact this
        have HF := Lib.hid (And.intro hfin (And.intro hbr hkM))
        have f1 := (hbr.cell (p := ⟨bl, ol + i, none⟩) (World.block_lt_of_cell? _ _ f0)).trans f0
        clear hfin hg hend f0
        cases same with
        | true =>
          clear hbr hkM
          have hme : (n - (i + 1) < n - i) := by have := HI.out.2.2.2.2.2.2.2.1; omega
          have HME := Lib.hid hme
          clear hme
          go_wp2_with fail
          go_roundw
          case rel =>
            refine ⟨i + 1, HI.out.2.2.2.2.2.2.2.1, by go_num, ?_, HF.out.1.1, HI.out.2.2.1.trans (HF.out.2.1.mono HI.out.2.2.1.size)⟩
            rw [HF.out.1.2.1 rfl, HI.out.2.2.2.2.1]
            exact ownsRow_below HI.out.1 HF.out.2.1
          case measure => have := HME.out; simp [intOf]; omega
        | false =>
          have hB0 : w.heap.size ≤ wc.heap.size := Nat.le_trans HI.out.2.2.1.size hbr.size
          have hro := (RO.own HI.out.1).below hbr
          have hs0 := Stp.new 3 hB0
          have hr0 := (hro.below hs0.bel).takeS (c' := co) hkM
          rw [ints_take] at hr0
          have HS := Lib.hid (And.intro hs0 hr0)
          have f2 := (hs0.bel.cell (p := ⟨bl, ol + i, none⟩) (World.block_lt_of_cell? _ _ f1)).trans f1
          have HR := Lib.hid (And.intro hro f1)
          have hkw : (k : Int) ≤ M := by omega
          have hkco : (k : Int) ≤ co := by have := HI.out.2.2.2.2.2.2.2.2.2.1; omega
          have hMco : (M : Int) ≤ co := by have := HI.out.2.2.2.2.2.2.2.2.2.1; omega
          have HD : Hid (∀ W, Below wc.heap.size wc W → RO W (.slice (if co = k then po else Option.map (fun x => x.add k) po) (M - k) (co - k)) 1 (M - k) (ints (N.drop k))) := Lib.hid fun W hb => by
            rcases Nat.eq_or_lt_of_le hkM with e | hlt
            · refine ⟨by simp [ints, HI.out.2.2.2.2.1], _, _, rfl, fun j u hj => ?_⟩
              rw [List.drop_eq_nil_of_le (by rw [HI.out.2.2.2.2.1]; omega)] at hj
              simp [ints] at hj
            · obtain ⟨g, hg⟩ := HI.out.2.2.2.2.2.2.2.2.2.2 (by omega)
              have hne : ¬ co = k := by have := HI.out.2.2.2.2.2.2.2.2.2.1; omega
              rw [if_neg hne, ← ints_drop]
              subst hg
              exact (hro.below hb).dropS hkM (fun _ => by simp [Addr.add]; intro e; exact e.symm)
          clear hbr hro hs0 hr0 hkM f1
          go_upto_region 13 with fail
          go_wp2_with (first
            | (at_builtin; refine wpList_appR rfl _ _ 23 rfl TInts w.heap.size (.slice p9 (k + 1) c9) (k + 1) _ rfl H9.out.own _ (M - k) _ rfl (HD.out _ H9.out.bel) (ints_one _) (by omega) (by omega) (Nat.le_trans hB0 H9.out.bel.size) ?_; intro v10 w10 happ; have H10 := Lib.hid (H9.out.app happ); clear happ)
            | (at_builtin; refine wpList_appR rfl _ _ 23 rfl TInts w.heap.size (.slice p8 k c8) k _ rfl (H8.out.alloc _).own _ 1 _ rfl (ro_one _ _) (by simp [Value.oneCell']) (by omega) (by omega) (Nat.le_trans hB0 (H8.out.alloc _).bel.size) ?_; intro v9 w9 happ; have hs9 := (H8.out.alloc _).app happ; obtain ⟨p9, c9, ev9⟩ := ownsRow_form hs9.own; subst ev9; have H9 := Lib.hid hs9; clear happ hs9)
            | (at_builtin; refine wpList_appR rfl _ _ 23 rfl TInts w.heap.size (.slice (some ⟨wc.heap.size, 0, none⟩) 0 0) 0 [] rfl HS.out.1.own _ k _ rfl HS.out.2 (ints_one _) (by omega) (by omega) (Nat.le_trans hB0 HS.out.1.bel.size) ?_; intro v8 w8 happ; have hs8 := HS.out.1.app happ; rw [Nat.zero_add, List.nil_append] at hs8; obtain ⟨p8, c8, ev8⟩ := ownsRow_form hs8.own; subst ev8; have H8 := Lib.hid hs8; have f8 := (hs8.bel.cell (p := ⟨bl, ol + i, none⟩) (World.block_lt_of_cell? _ _ HR.out.2)).trans HR.out.2; clear happ hs8))
          have hme : (n - (i + 1) < n - i) := by have := HI.out.2.2.2.2.2.2.2.1; omega
          have HME := Lib.hid hme
          clear hme
          go_roundw
          case rel =>
            have hfl := HF.out.1.2.2 rfl
            have hle : k + 1 + (M - k) = (N.take k ++ [x] ++ N.drop k).length := by
              have h1 := HF.out.2.2
              have h2 := HI.out.2.2.2.2.1
              simp only [List.length_append, List.length_take, List.length_drop, List.length_cons, List.length_nil]
              omega
            refine ⟨i + 1, HI.out.2.2.2.2.2.2.2.1, by go_num, ?_, HF.out.1.1, (HI.out.2.2.1.trans (HF.out.2.1.mono HI.out.2.2.1.size)).trans (H10.out.bel.mono hB0)⟩
            rw [hfl, ← hle]
            have := H10.out.own
            rw [show ints (N.take k) ++ [Value.int .i64 x] ++ ints (N.drop k) = ints (N.take k ++ [x] ++ N.drop k) by simp [ints]] at this
            exact this
          case measure => have := HME.out; simp [intOf]; omega
    · obtain rfl : i = n := by omega
      have HX := Lib.hid (And.intro hown (And.intro ht hbel))
      have htk : l.take i = l := List.take_of_length_le (by rw [HN.out.1]; exact Nat.le_refl _)
      have HT := Lib.hid htk
      clear hown ht hbel hlt hi hpo hco
      go_wp2_with fail
      go_ret2
      have h1 := HX.out.1
      have h2 := HX.out.2.1
      rw [HT.out] at h1 h2
      refine ⟨fun h => (by rw [h2] at h; cases h), fun _ => ⟨_, by rw [HT.out]; rfl, h1⟩, HX.out.2.2⟩
end Go.Proofs.Ytcifiibpiooeiaa
