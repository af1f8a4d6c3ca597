import Derived.Test.YtcifiibpiooeiaaR13
namespace Go.Proofs.Ytcifiibpiooeiaa
set_option linter.unusedVariables false
open Go Go.Lib Go.RowKit Go.Sort

/-! ## Check -/
/-- the clauses and the first i lines of a proof -/
def CumS (cls ps : List (List Int)) (i : Nat) (l : List Int) : Prop := SetOf cls l ∨ ∃ k, k < i ∧ ∀ x, x ∈ ps.getD k [] ↔ x ∈ l
theorem CumS_succ (cls ps : List (List Int)) (i : Nat) (l : List Int) : CumS cls ps (i + 1) l ↔ CumS cls ps i l ∨ ∀ x, x ∈ ps.getD i [] ↔ x ∈ l := by
  unfold CumS
  constructor
  · rintro (h | ⟨k, hk, hx⟩)
    · exact .inl (.inl h)
    · by_cases e : k = i
      · subst e; exact .inr hx
      · exact .inl (.inr ⟨k, by omega, hx⟩)
  · rintro ((h | ⟨k, hk, hx⟩) | hx)
    · exact .inl h
    · exact .inr ⟨k, by omega, hx⟩
    · exact .inr ⟨i, by omega, hx⟩
/-- a line that follows -/
def Line (cls : List (List Int)) (v : Nat) (ps : List (List Int)) (j : Nat) : Prop := (ps.getD j []).any (badL v) = false ∧ Fails (CumS cls ps j) (fun x => -x ∈ ps.getD j [])
def Chk (cls : List (List Int)) (v : Nat) (ps : List (List Int)) (n c : Nat) : Prop :=
  (∃ i, i < ps.length ∧ n = i ∧ (∀ j, j < i → Line cls v ps j) ∧ (((ps.getD i []).any (badL v) = true ∧ c = 3) ∨ ((ps.getD i []).any (badL v) = false ∧ ¬ Fails (CumS cls ps i) (fun x => -x ∈ ps.getD i []) ∧ c = 20))) ∨
  ((∀ j, j < ps.length → Line cls v ps j) ∧ (((ps.length = 0 ∨ 0 < (ps.getD (ps.length - 1) []).length) ∧ n = ps.length ∧ c = 6) ∨ (ps.length ≠ 0 ∧ (ps.getD (ps.length - 1) []).length = 0 ∧ n = 0 ∧ c = 0)))
def ChkR (w : World) (cls : List (List Int)) (v : Nat) (ps : List (List Int)) (e : Ending) (w' : World) : Prop :=
  ∃ n c : Nat, e = .returned (.tuple #[.int .i64 n, .int .i64 c]) ∧ Below w.heap.size w w' ∧ Chk cls v ps n c
structure LoopK (base b : Nat) (w : World) (v : Nat) (cls ps : List (List Int)) (i : Nat) (S : St) (V : Key → Value) (wr : World) : Prop where
  id : Idle base b wr S V
  bel : Below base w wr
  hv : S.v = v
  hm : S.m = cls.length + i
  sh : S.short.length ≤ cls.length + i
  len : ∀ j, (S.cl j).length ≤ 1000
  hcls : ∀ l, ClsOf S l ↔ CumS cls ps i l
  good : ∀ j, j < i → Line cls v ps j
set_option maxRecDepth 100000 in
set_option maxHeartbeats 8000000 in
theorem kcheck_any {A : Nat → Prop} {w : World} {bc : Nat} {F : Nat → Prop} {v : Nat} {cls : List (List Int)} {pl : Option Addr} {cl : Nat} {sls : List (Option Addr × Nat × Nat)} {ps : List (List Int)} (h : HasC A w bc F v cls) (hw : WFC v cls)
    (hl : RO w (.slice pl ps.length cl) 1 ps.length (slvs sls)) (hn : Nest w sls ps) (hp : ps.length ≤ 100) (hpl : ∀ i, (ps.getD i []).length ≤ 1000) :
    Calls Try.prog 23 #[.pointer (some ⟨bc, 0, none⟩), .slice pl ps.length cl] w (ChkR w cls v ps) := by
  have HM := Lib.hid (made_any h hw)
  obtain ⟨n, hN⟩ : ∃ n, ps.length = n := ⟨_, rfl⟩
  have HX := Lib.hid (And.intro hw (And.intro hl (And.intro hn (And.intro hpl hN))))
  rw [hN] at hp ⊢
  have hni : (n : Int) ≤ 100 := by omega
  clear h hw hl hn hpl hN
  go_enter Try.func23, Try.ntmps23
  go_wp2_with fail
  refine HM.out.mono ?_; rintro e w1 ⟨b, S, V, rfl, hid, hbel, hSv, hSm, hSs, hSl, hcls⟩
  have HK0 : Hid (LoopK w.heap.size b w v cls ps 0 S V w1) := Lib.hid ⟨hid, hbel, hSv, hSm, by omega, hSl, fun l => (hcls l).trans ⟨fun h => .inl h, fun h => h.elim (fun h => h) (fun ⟨k, hk, _⟩ => absurd hk (Nat.not_lt_zero _))⟩, fun j hj => absurd hj (Nat.not_lt_zero _)⟩
  clear hid hbel hSv hSm hSs hSl hcls
  go_wp2_with fail
  go_loopw [14] (fun iv wr => ∃ (i : Nat) (S : St) (V : Key → Value), i ≤ n ∧ iv = .int .i64 i ∧ LoopK w.heap.size b w v cls ps i S V wr) (fun iv _ => n - (intOf iv).toNat)
  case atStart => exact ⟨0, S, V, Nat.zero_le _, rfl, HK0.out⟩
  case round =>
    clear HK0
    obtain ⟨i, S, V, hin, rfl, hL⟩ := hrel
    have HL := Lib.hid hL
    by_cases hlt : i < n
    · have hil : i < ps.length := by rw [HX.out.2.2.2.2]; exact hlt
      have hsl : i < sls.length := by rw [HX.out.2.2.1.1]; exact hil
      obtain ⟨_, p', c', e, hcells⟩ := HX.out.2.1
      cases e
      obtain ⟨bl, o, rfl, hcl⟩ := hcells i _ (slvs_at sls i hsl)
      have hcl2 := (hL.bel.cell (World.block_lt_of_cell? _ _ hcl)).trans hcl
      obtain ⟨l, hl⟩ : ∃ l, ps.getD i [] = l := ⟨_, rfl⟩
      have hne := HX.out.2.2.1.2 i hil
      obtain ⟨s, hs⟩ : ∃ s, sls.getD i default = s := ⟨_, rfl⟩
      rw [hs, hl] at hne
      rw [hs] at hcl2
      obtain ⟨q, k, d⟩ := s
      have hk : l.length = k := hne.1.symm
      have hro0 : RO w (.slice q k d) 1 k (ints l) := by have := hne.2.2; rw [hk] at this; exact this
      have hro : ∀ W, Below w.heap.size w W → RO W (.slice q k d) 1 k (ints l) := fun W hb => hro0.below hb
      have hk6 : k ≤ 1000 := by rw [← hk, ← hl]; exact HX.out.2.2.2.1 i
      have hv6 := HX.out.1.hv
      have hkn := kknown_any (l := l) hL.id.ck (by rw [hk]; exact hro wr hL.bel) (by omega) (by rw [hL.hv]; omega)
      rw [hL.hv] at hkn
      have HKn := Lib.hid hkn
      obtain ⟨t, ht⟩ : ∃ t, l.any (badL v) = t := ⟨_, rfl⟩
      rw [ht] at HKn
      have HR := Lib.hid (And.intro hro (And.intro hl (And.intro hk ht)))
      have hid : decide (i < n) = true := decide_eq_true hlt
      have hii : (i : Int) < n := by omega
      have hi0 : (0 : Int) ≤ i := by omega
      have hiw : IntKind.i64.wrap ((i : Int) + 1) = (i : Int) + 1 := i64_of (by omega)
      have hcl3 : wr.cell? ⟨bl, o + i, none⟩ = some (.slice q k d) := hcl2
      clear hL hil hsl hcells hcl hcl2 hl hne hs hk hro0 hro hv6 hkn ht HM
      cases t with
      | true =>
        go_wp2_with fail
        refine HKn.out.mono ?_; rintro e w2 ⟨rfl, hb2⟩
        have HB := Lib.hid hb2
        clear hb2
        go_wp2_with fail
        go_ret2
        exact ⟨i, 3, rfl, HL.out.bel.trans (HB.out.mono HL.out.bel.size), .inl ⟨i, by rw [HX.out.2.2.2.2]; exact hlt, rfl, HL.out.good, .inl ⟨by rw [HR.out.2.1]; exact HR.out.2.2.2, rfl⟩⟩⟩
      | false =>
        go_wp2_with fail
        refine HKn.out.mono ?_; rintro e w2 ⟨rfl, hb2⟩
        have hbel2 := HL.out.bel.trans (hb2.mono HL.out.bel.size)
        have hn6 := HX.out.1.n
        have hv6 := HX.out.1.hv
        have hf := follows_any (l := l) (n := k) (lv := .slice q k d) (HL.out.id.below hb2) (fun x hx => by rw [HL.out.hv]; exact bad_none HR.out.2.2.2 x hx) HR.out.2.2.1 (by omega) (fun W hb => HR.out.1 W (hbel2.trans hb)) (by rw [HL.out.hv]; omega) (by rw [HL.out.hm]; omega)
          (fun j => Nat.le_trans (HL.out.len j) (by omega)) (Nat.le_trans HL.out.sh (by omega))
        have HF := Lib.hid hf
        have HB := Lib.hid hbel2
        clear hf hbel2 hb2 hn6 hv6
        go_wp2_with fail
        refine HF.out.mono ?_; rintro e w3 ⟨f, S3, V3, rfl, hid3, hb3, hsame, hiff⟩
        rw [Fails.congr HL.out.hcls] at hiff
        have H3 := Lib.hid (And.intro hid3 (And.intro (HB.out.trans hb3) (And.intro hsame hiff)))
        clear hid3 hb3 hsame hiff
        cases f with
        | false =>
          go_wp2_with fail
          go_ret2
          exact ⟨i, 20, rfl, H3.out.2.1, .inl ⟨i, by rw [HX.out.2.2.2.2]; exact hlt, rfl, HL.out.good, .inr ⟨by rw [HR.out.2.1]; exact HR.out.2.2.2, by rw [HR.out.2.1]; exact fun h => by have := H3.out.2.2.2.2 h; simp at this, rfl⟩⟩⟩
        | true =>
          have hn6 := HX.out.1.n
          have hv6 := HX.out.1.hv
          have hsv : S3.v = v := H3.out.2.2.1.fix.1.trans HL.out.hv
          have hsm : S3.m = cls.length + i := H3.out.2.2.1.fix.2.1.trans HL.out.hm
          have hss : S3.short.length ≤ cls.length + i := by rw [H3.out.2.2.1.fix.2.2]; exact HL.out.sh
          have hadd := kadd_any (l := l) (lv := .slice q k d) H3.out.1.ck (fun x hx => by rw [hsv]; exact bad_none HR.out.2.2.2 x hx) (by rw [HR.out.2.2.1]; exact HR.out.1 w3 H3.out.2.1) (by have := HR.out.2.2.1; omega) (by omega) (by omega) (by omega) (fun s => by have := H3.out.1.wf.wlen s; omega)
          have HAdd := Lib.hid hadd
          have HS := Lib.hid (And.intro hsv (And.intro hsm hss))
          clear hadd hn6 hv6 hsv hsm hss
          go_wp2_with fail
          refine HAdd.out.mono ?_; rintro e w4 ⟨rfl, V4, hck4, hb4, hk4⟩
          have H4 := Lib.hid (And.intro hck4 (And.intro (H3.out.2.1.trans (hb4)) hk4))
          clear hck4 hb4 hk4
          go_wp2_with fail
          go_roundw
          case rel =>
            obtain ⟨f1, f2, f3, f4, f5, f6⟩ := addS_fix S3 (clauseI l)
            refine ⟨i + 1, _, V4, by omega, by go_num, ⟨H4.out.1, H4.out.2.2.trans H3.out.1.keep, f6.trans H3.out.1.kp, H3.out.1.wf.add (fun x hx => by rw [HS.out.1]; exact bad_none HR.out.2.2.2 x hx), f4.trans H3.out.1.tr, f5.trans H3.out.1.hd⟩, H4.out.2.1, f2.trans HS.out.1, by rw [f1, HS.out.2.1]; omega, by have := addS_short_len S3 (clauseI l); have := HS.out.2.2; omega, fun j => ?_, fun l' => ?_, fun j hj => ?_⟩
            · rw [addS_cl]; split
              · have := clauseI_len l; have := HR.out.2.2.1; omega
              · rw [H3.out.2.2.1.len]; exact HL.out.len j
            · rw [addS_cls, CumS_succ, ← HL.out.hcls, HR.out.2.1]
              refine or_congr ⟨fun ⟨a, ha, hm⟩ => ⟨a, by rw [← H3.out.2.2.1.fix.2.1]; exact ha, fun x => (H3.out.2.2.1.mem a x).symm.trans (hm x)⟩, fun ⟨a, ha, hm⟩ => ⟨a, by rw [H3.out.2.2.1.fix.2.1]; exact ha, fun x => (H3.out.2.2.1.mem a x).trans (hm x)⟩⟩ Iff.rfl
            · by_cases e : j < i
              · exact HL.out.good j e
              · obtain rfl : j = i := by omega
                exact ⟨by rw [HR.out.2.1]; exact HR.out.2.2.2, by rw [HR.out.2.1]; exact H3.out.2.2.2.1 trivial⟩
          case measure => simp [intOf]; omega
    · have hid : decide (i < n) = false := decide_eq_false hlt
      clear hL
      have HE : Hid (Below w.heap.size w wr ∧ ∀ j, j < ps.length → Line cls v ps j) := Lib.hid ⟨HL.out.bel, fun j hj => HL.out.good j (by have := HX.out.2.2.2.2; omega)⟩
      by_cases h0 : n = 0
      · have HN := HX.out.2.2.2.2
        subst h0
        have HN2 := Lib.hid HN
        clear HN
        go_wp2_with fail
        go_ret2
        exact ⟨0, 6, rfl, HE.out.1, .inr ⟨HE.out.2, .inl ⟨.inl HN2.out, HN2.out.symm, rfl⟩⟩⟩
      · obtain ⟨m, hm⟩ : ∃ m, n - 1 = m := ⟨_, rfl⟩
        have hmn : (m : Int) < n := by omega
        have hm0 : (0 : Int) ≤ m := by omega
        have hnw : IntKind.i64.wrap ((n : Int) - 1) = (m : Int) := (i64_of (by omega)).trans (by omega)
        have hml : m < ps.length := by rw [HX.out.2.2.2.2]; omega
        have hsl : m < sls.length := by rw [HX.out.2.2.1.1]; exact hml
        obtain ⟨_, p', c', e, hcells⟩ := HX.out.2.1
        cases e
        obtain ⟨bl, o, rfl, hcl⟩ := hcells m _ (slvs_at sls m hsl)
        have hcl2 := (HE.out.1.cell (World.block_lt_of_cell? _ _ hcl)).trans hcl
        have hne := (HX.out.2.2.1.2 m hml).1
        obtain ⟨s, hs⟩ : ∃ s, sls.getD m default = s := ⟨_, rfl⟩
        rw [hs] at hne hcl2
        obtain ⟨q, k, d⟩ := s
        have hcl3 : wr.cell? ⟨bl, o + m, none⟩ = some (.slice q k d) := hcl2
        have hnd : (n == 0) = false := by simpa using h0
        have HZ : Hid (k = (ps.getD (ps.length - 1) []).length ∧ ps.length = n ∧ ps.length ≠ 0) := Lib.hid ⟨by rw [HX.out.2.2.2.2, hm]; exact hne, HX.out.2.2.2.2, by rw [HX.out.2.2.2.2]; exact h0⟩
        clear hml hsl hcells hcl hcl2 hne hs hm
        by_cases hk : 0 < k
        · have hkd : decide (0 < k) = true := decide_eq_true hk
          go_wp2_with fail
          go_ret2
          exact ⟨n, 6, rfl, HE.out.1, .inr ⟨HE.out.2, .inl ⟨.inr (by rw [← HZ.out.1]; exact hk), HZ.out.2.1.symm, rfl⟩⟩⟩
        · have hkd : decide (0 < k) = false := decide_eq_false hk
          go_wp2_with fail
          go_ret2
          exact ⟨0, 0, rfl, HE.out.1, .inr ⟨HE.out.2, .inr ⟨HZ.out.2.2, by rw [← HZ.out.1]; omega, rfl, rfl⟩⟩⟩
end Go.Proofs.Ytcifiibpiooeiaa
