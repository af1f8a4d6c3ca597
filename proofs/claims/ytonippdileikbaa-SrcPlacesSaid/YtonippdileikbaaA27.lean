import Derived.Test.YtonippdileikbaaA26
import Derived.Deep.DeepCutAuto
namespace Go.Proofs.Ytonippdileikbaa
set_option linter.unusedVariables false
open Go.RowKit

def yNm : ByteArray := ⟨#[121]⟩
theorem y_name : isName yNm = true := by decide +kernel
theorem ro_two {w : World} {b : Nat} {t : TypeId} (n1 t1 n2 t2 : ByteArray) (h : Blk w b t [.string n1, .string t1, .string n2, .string t2]) : RO w (.slice (some ⟨b, 0, none⟩) 2 2) 2 [(⟨n1, t1⟩ : Fil), ⟨n2, t2⟩].length (filCells [⟨n1, t1⟩, ⟨n2, t2⟩]) := by
  refine ⟨rfl, _, _, rfl, fun j u hj => ⟨b, 0, rfl, ?_⟩⟩
  rw [Nat.zero_add]
  exact h.cell hj
theorem xy_ne : sameS xNm yNm = false := by decide +kernel
theorem new_two (w : World) (tx : ByteArray) (ht : tx.size ≤ 32768) : Calls Try.prog 10 #[.slice (some ⟨w.heap.size, 0, none⟩) 2 2] (w.alloc (.cells #[.string xNm, .string ⟨#[]⟩, .string yNm, .string tx] 34)) (NewOk (w.alloc (.cells #[.string xNm, .string ⟨#[]⟩, .string yNm, .string tx] 34)) [⟨xNm, ⟨#[]⟩⟩, ⟨yNm, tx⟩]) := by
  refine new_ok (w := w.alloc (.cells #[.string xNm, .string ⟨#[]⟩, .string yNm, .string tx] 34)) _ [⟨xNm, ⟨#[]⟩⟩, ⟨yNm, tx⟩] (ro_two xNm ⟨#[]⟩ yNm tx (Blk.new 34 _)) (.inr (.inr (.inr (.inr ⟨by simp, ?_, ?_, ?_, rfl⟩)))) ?_ ?_
  · rintro ⟨i, hi, h⟩
    rcases i with _ | _ | i
    · simp [x_name] at h
    · simp [y_name] at h
    · simp at hi; omega
  · rintro ⟨i, j, hj, hi, h⟩
    obtain ⟨rfl, rfl⟩ : i = 1 ∧ j = 0 := by simp at hi; omega
    simp [xy_ne] at h
  · show (([⟨xNm, ⟨#[]⟩⟩, ⟨yNm, tx⟩] : List Fil).map fun f => f.text.size).sum ≤ 32768
    show (0 : Nat) + (tx.size + 0) ≤ 32768; omega
  · intro i hi
    rcases i with _ | _ | i
    · exact seven _ x_name
    · exact seven _ y_name
    · simp at hi; omega
  · intro i hi
    rcases i with _ | _ | i
    · show (⟨#[]⟩ : ByteArray).size ≤ _; simp [ByteArray.size]
    · show tx.size ≤ _; omega
    · simp at hi; omega

abbrev fs2 (tx : ByteArray) : List Fil := [⟨xNm, ⟨#[]⟩⟩, ⟨yNm, tx⟩]
/-- what is known at a point of the law: the table, and the place p -/
structure PlT (w : World) (B bt : Nat) (ps : List Part) (tx : ByteArray) (x y z : Int) (wr : World) : Prop where
  made : Made wr bt ps (fs2 tx)
  far : Far B wr bt ps
  bel : Below w.heap.size w wr
  blk : Blk wr w.heap.size 44 [.int .i64 x, .int .i64 y, .int .i64 z]
theorem PlT.below {w B bt ps tx x y z wr wr'} (h : PlT w B bt ps tx x y z wr) (hb : Below wr.heap.size wr wr') : PlT w B bt ps tx x y z wr' :=
  ⟨h.made.below hb, h.far.below hb, h.bel.trans (hb.mono h.bel.size), h.blk.below hb h.blk.lt⟩
theorem PlT.alloc {w B bt ps tx x y z wr} (h : PlT w B bt ps tx x y z wr) (o : Obj) : PlT w B bt ps tx x y z (wr.alloc o) := h.below ((Below.refl _ _).alloc (Nat.le_refl _) _)
theorem PlT.set {w B bt ps tx x y z wr} (h : PlT w B bt ps tx x y z wr) (hB : w.heap.size < B) (x' : Int) : PlT w B bt ps tx x' y z (wr.setCell ⟨w.heap.size, 0, none⟩ (.int .i64 x')) := by
  obtain ⟨h1, h2⟩ := h.made.far h.far (a := ⟨w.heap.size, 0, none⟩) hB (.int .i64 x')
  exact ⟨h1, h2, h.bel.setCell (Nat.le_refl _) _, h.blk.set 0 _⟩

set_option maxRecDepth 100000 in
set_option maxHeartbeats 8000000 in
theorem places_law (s : ByteArray) (off px pl pc : Int) (w : World) (hs : s.size ≤ 9223372036854775807) (hoff : -9223372036854775808 ≤ off ∧ off ≤ 9223372036854775807) (hc : -9223372036854775808 ≤ pc ∧ pc ≤ 9223372036854775807) : Calls Try.prog 4 #[.string s, .int .i64 off, .agg #[.int .i64 px, .int .i64 pl, .int .i64 pc]] w fun e w' => e = .returned (.bool true) ∧ Below w.heap.size w w' := by
  have HA := Lib.hid (fun w => awake_any w)
  have hs' : (s.size : Int) ≤ 9223372036854775807 := by omega
  have HCO := Lib.hid (And.intro hoff (And.intro hs hc))
  obtain ⟨ho1, ho2⟩ := hoff
  clear hs hc
  go_enter Try.func4, Try.ntmps4
  go_wp2_with fail
  refine (HA.out _).mono ?_; rintro e w1 ⟨rfl, hb⟩
  obtain ⟨hk1, hb1, hlt1⟩ := kept_new (l := [.int .i64 px, .int .i64 pl, .int .i64 pc]) hb
  have HB := Lib.hid (And.intro hk1 hb1)
  clear hb hk1 hb1 HA
  go_upto_if 28 with fail
  go_cut [0] (fun v wx => ∃ tx : ByteArray, v = .string tx ∧ tx.size ≤ 2000 ∧ wx = w1)
  case first =>
    by_cases h : s.size ≤ 2000
    · have h' : (s.size : Int) ≤ 2000 := by omega
      go_wp2_with fail
      go_meet
      exact ⟨_, rfl, h, rfl⟩
    · have h' : (2000 : Int) < s.size := by omega
      go_wp2_with fail
      go_meet
      exact ⟨_, rfl, by rw [cut_size s (by omega)]; exact Nat.le_refl _, rfl⟩
  case rest =>
    obtain ⟨tx, rfl, htx, rfl⟩ := hcut
    have htx' : (tx.size : Int) ≤ 2000 := by omega
    have HN := Lib.hid (fun w => new_two w tx (by omega))
    have HT := Lib.hid htx
    clear htx
    go_wp2_with fail
    refine (HN.out _).mono ?_; rintro e w2 ⟨bt, ps, rfl, hM, hfar, hb⟩
    have K2 : Hid (PlT w (wc.heap.size + 1) bt ps tx px pl pc w2) := Lib.hid ⟨hM, by rw [World.size_alloc] at hfar; exact hfar, Below.then (HB.out.2.alloc HB.out.2.size _) hb (Nat.le_refl _), (HB.out.1.alloc _).below hb (by rw [World.size_alloc]; omega)⟩
    have P1 : Hid (∀ wr (m : Nat), Made wr bt ps (fs2 tx) → m ≤ tx.size → Calls Try.prog 18 #[.pointer (some ⟨bt, 0, none⟩), .int .i64 2, .int .i64 m] wr fun e w' => e = .returned (.tuple #[.agg #[.int .i64 2, .int .i64 (plTo tx.data.toList m).1, .int .i64 (plTo tx.data.toList m).2], .int .i64 0]) ∧ Below wr.heap.size wr w') :=
      Lib.hid fun wr m hM hm => pos_at hM (by simp) 1 m ⟨yNm, tx⟩ rfl (by simp) hm
    have P2 : Hid (∀ wr (m : Int), Made wr bt ps (fs2 tx) → m < 0 ∨ (tx.size : Int) < m → Calls Try.prog 18 #[.pointer (some ⟨bt, 0, none⟩), .int .i64 2, .int .i64 m] wr fun e w' => e = .returned (.tuple #[.agg #[.int .i64 0, .int .i64 0, .int .i64 0], .int .i64 3]) ∧ Below wr.heap.size wr w') :=
      Lib.hid fun wr m hM hm => pos_no hM (by simp) 1 m ⟨yNm, tx⟩ rfl (by simp) hm
    have P3 : Hid (∀ wr, Made wr bt ps (fs2 tx) → Calls Try.prog 18 #[.pointer (some ⟨bt, 0, none⟩), .int .i64 3, .int .i64 0] wr fun e w' => e = .returned (.tuple #[.agg #[.int .i64 0, .int .i64 0, .int .i64 0], .int .i64 21]) ∧ Below wr.heap.size wr w') :=
      Lib.hid fun wr hM => pos_nofile hM.tab 3 0 (.inr (by rw [hM.len]; simp)) (hM.small (by simp))
    have O1 : Hid (∀ wr (l c : Int), Made wr bt ps (fs2 tx) → -9223372036854775808 ≤ c ∧ c ≤ 9223372036854775807 → placed tx l c → Calls Try.prog 20 #[.pointer (some ⟨bt, 0, none⟩), .agg #[.int .i64 2, .int .i64 l, .int .i64 c]] wr fun e w' => ∃ m : Nat, (m ≤ tx.size ∧ ((plTo tx.data.toList m).1 : Int) = l ∧ ((plTo tx.data.toList m).2 : Int) = c) ∧ e = .returned (.tuple #[.int .i64 m, .int .i64 0]) ∧ Below wr.heap.size wr w') :=
      Lib.hid fun wr l c hM hc hp => off_yes hM (by simp) 1 ⟨yNm, tx⟩ rfl (by simp) l c hc hp
    have O2 : Hid (∀ wr (l c : Int), Made wr bt ps (fs2 tx) → -9223372036854775808 ≤ c ∧ c ≤ 9223372036854775807 → ¬ placed tx l c → Calls Try.prog 20 #[.pointer (some ⟨bt, 0, none⟩), .agg #[.int .i64 2, .int .i64 l, .int .i64 c]] wr fun e w' => e = .returned (.tuple #[.int .i64 0, .int .i64 3]) ∧ Below wr.heap.size wr w') :=
      Lib.hid fun wr l c hM hc hp => off_no hM (by simp) 1 ⟨yNm, tx⟩ rfl (by simp) l c hc hp
    have O3 : Hid (∀ wr, Made wr bt ps (fs2 tx) → Calls Try.prog 20 #[.pointer (some ⟨bt, 0, none⟩), .agg #[.int .i64 0, .int .i64 1, .int .i64 1]] wr fun e w' => e = .returned (.tuple #[.int .i64 0, .int .i64 21]) ∧ Below wr.heap.size wr w') :=
      Lib.hid fun wr hM => offset_nofile hM.tab 0 1 1 (.inl (by omega)) (hM.small (by simp))
    have PL : Hid (∀ wr (m : Nat), m ≤ tx.size → Calls Try.prog 19 #[.string tx, .int .i64 m] wr fun e w' => e = .returned (.tuple #[.int .i64 (plTo tx.data.toList m).1, .int .i64 (plTo tx.data.toList m).2]) ∧ wr = w') :=
      Lib.hid fun wr m hm => place_any tx m wr hm (by omega)
    clear hM hb HN hfar
    by_cases hin : off < 0 ∨ (tx.size : Int) < off
    · have HC := Lib.hid (P2.out w2 off K2.out.made hin)
      rcases hin with hin | hin
      all_goals
        try have hin1 : 0 ≤ off := by omega
        go_wp2_with fail
        refine HC.out.mono ?_; rintro e w3 ⟨rfl, hb3⟩
        have K3 := Lib.hid (K2.out.below hb3)
        have c0 := K3.out.blk.cell (i := 0) rfl
        have c1 := K3.out.blk.cell (i := 1) rfl
        have c2 := K3.out.blk.cell (i := 2) rfl
        have f0 := K3.out.blk.frz 0
        have hlt3 := K3.out.blk.lt
        clear hb3
        go_wp2_with fail
        have K4 := Lib.hid ((K3.out.set (by omega) 2).alloc (.cells #[.int .i64 0, .int .i64 0, .int .i64 0] 44))
        clear c0 c1 c2 f0

        have hBl : w.heap.size < wc.heap.size + 1 := by omega
        have hcb := HCO.out.2.2
        have HM := Lib.hid K4.out.made
        by_cases hp : placed tx pl pc
        · have HO := Lib.hid (O1.out _ pl pc K4.out.made hcb hp)
          refine HO.out.mono ?_; rintro e w4 ⟨m, ⟨hm1, hm2, hm3⟩, rfl, hb4⟩
          have K5 := Lib.hid (K4.out.below hb4)
          have c0 := K5.out.blk.cell (i := 0) rfl
          have c1 := K5.out.blk.cell (i := 1) rfl
          have c2 := K5.out.blk.cell (i := 2) rfl
          have hlt5 := K5.out.blk.lt
          have hmi : (m : Int) ≤ tx.size := by omega
          have HP := PL.out w4 m hm1
          rw [hm2, hm3] at HP
          have HP := Lib.hid HP
          clear hb4 HO hp hm2 hm3 hcb
          rcases Nat.eq_zero_or_pos m with rfl | hmp
          all_goals
            try have hmp' : 0 < (m : Int) := by omega
            go_wp2_with fail
            refine HP.out.mono ?_; rintro e w' ⟨rfl, rfl⟩
            go_wp2_with fail
            refine (P3.out _ K5.out.made).mono ?_; rintro e w6 ⟨rfl, hb6⟩
            have K6 := Lib.hid (K5.out.below hb6)
            clear hb6 c0 c1 c2
            go_wp2_with fail
            refine (O3.out _ (K6.out.alloc _).made).mono ?_; rintro e w7 ⟨rfl, hb7⟩
            have K7 := Lib.hid ((K6.out.alloc _).below hb7)
            have c0 := K7.out.blk.cell (i := 0) rfl
            have c1 := K7.out.blk.cell (i := 1) rfl
            have c2 := K7.out.blk.cell (i := 2) rfl
            clear hb7
            go_wp2_with fail
            go_ret
            exact ⟨rfl, K7.out.bel⟩
        · have HO := Lib.hid (O2.out _ pl pc K4.out.made hcb hp)
          refine HO.out.mono ?_; rintro e w4 ⟨rfl, hb4⟩
          have K5 := Lib.hid (K4.out.below hb4)
          have c0 := K5.out.blk.cell (i := 0) rfl
          have c1 := K5.out.blk.cell (i := 1) rfl
          have c2 := K5.out.blk.cell (i := 2) rfl
          have hlt5 := K5.out.blk.lt
          have HPn := Lib.hid hp
          clear hb4 HO hp hcb
          go_wp2_with fail
          go_loop [15] (fun i => ∃ k : Nat, k ≤ tx.size + 1 ∧ i = .int .i64 k) (fun i => tx.size + 1 - (intOf i).toNat)
          case atStart => exact ⟨0, Nat.zero_le _, rfl⟩
          case round =>
            obtain ⟨k, hk, rfl⟩ := hrel
            by_cases hlt : k ≤ tx.size
            · have hki : (k : Int) ≤ tx.size := by omega
              have hpl := placed_of tx k hlt
              have HP := PL.out w4 k hlt
              have hne : ¬ (((plTo tx.data.toList k).1 : Int) = pl ∧ ((plTo tx.data.toList k).2 : Int) = pc) := fun ⟨a, b⟩ => HPn.out (a ▸ b ▸ hpl)
              generalize ((plTo tx.data.toList k).1 : Int) = A at *
              generalize ((plTo tx.data.toList k).2 : Int) = B at *
              have HP := Lib.hid HP
              clear hpl
              by_cases e1 : A = pl
              · have e2 : (B == pc) = false := by simp; exact fun e => hne ⟨e1, e⟩
                have e1' : (A == pl) = true := by simp [e1]
                clear e1 hne
                go_wp2_with fail
                refine HP.out.mono ?_; rintro e w' ⟨rfl, rfl⟩
                go_wp2_with fail
                go_round
                case rel => exact ⟨k + 1, by omega, by go_num⟩
                case measure => simp [intOf]; omega
              · have e1' : (A == pl) = false := by simp [e1]
                clear e1 hne
                go_wp2_with fail
                refine HP.out.mono ?_; rintro e w' ⟨rfl, rfl⟩
                go_wp2_with fail
                go_round
                case rel => exact ⟨k + 1, by omega, by go_num⟩
                case measure => simp [intOf]; omega
            · have hki : (tx.size : Int) < k := by omega
              clear hlt
              go_wp2_with fail
              go_ret
              exact ⟨rfl, K5.out.bel⟩
    · obtain ⟨m0, rfl⟩ : ∃ m0 : Nat, off = m0 := ⟨off.toNat, by omega⟩
      have hm0 : m0 ≤ tx.size := by omega
      have hin1 : (m0 : Int) ≤ tx.size := by omega
      have hbd := plTo_le tx.data.toList m0
      have HC := P1.out w2 m0 K2.out.made hm0
      have HPl := fun wr => PL.out wr m0 hm0
      have HO := fun wr (hM : Made wr bt ps (fs2 tx)) => (O1.out wr _ _ hM (by have := HT.out; omega) (placed_of tx m0 hm0)).mono (R' := fun e w' => e = .returned (.tuple #[.int .i64 m0, .int .i64 0]) ∧ Below wr.heap.size wr w') fun e w' ⟨m, ⟨a1, a2, a3⟩, he, hb⟩ => by
        obtain rfl : m = m0 := plTo_inj tx m m0 a1 hm0 (by omega) (by omega)
        exact ⟨he, hb⟩
      generalize ((plTo tx.data.toList m0).1 : Int) = A at *
      generalize ((plTo tx.data.toList m0).2 : Int) = B at *
      have HC := Lib.hid HC
      have HPl := Lib.hid HPl
      have HO := Lib.hid HO
      clear hin hbd
      go_wp2_with fail
      refine HC.out.mono ?_; rintro e w3 ⟨rfl, hb3⟩
      have K3 := Lib.hid (K2.out.below hb3)
      clear hb3
      go_wp2_with fail
      refine (HPl.out _).mono ?_; rintro e w' ⟨rfl, rfl⟩
      go_wp2_with fail
      refine (HO.out _ (K3.out.alloc _).made).mono ?_; rintro e w4 ⟨rfl, hb4⟩
      have K3b := Lib.hid ((K3.out.alloc _).below hb4)
      obtain ⟨hkq, _, hltq⟩ := kept_new (l := [.int .i64 2, .int .i64 A, .int .i64 B]) hb4
      have q0 := hkq.cell (i := 0) rfl
      have q1 := hkq.cell (i := 1) rfl
      have q2 := hkq.cell (i := 2) rfl
      have c0 := K3b.out.blk.cell (i := 0) rfl
      have c1 := K3b.out.blk.cell (i := 1) rfl
      have c2 := K3b.out.blk.cell (i := 2) rfl
      have f0 := K3b.out.blk.frz 0
      have hlt3 := K3b.out.blk.lt
      have hw3 := K3.out.blk.lt
      clear hb4 hkq HC HPl HO
      go_wp2_with fail
      have K4 := Lib.hid (K3b.out.set (by omega) 2)
      clear c0 c1 c2 f0 q0 q1 q2
      have hBl : w.heap.size < wc.heap.size + 1 := by omega
      have hcb := HCO.out.2.2
      have HM := Lib.hid K4.out.made
      by_cases hp : placed tx pl pc
      · have HO := Lib.hid (O1.out _ pl pc K4.out.made hcb hp)
        refine HO.out.mono ?_; rintro e w4 ⟨m, ⟨hm1, hm2, hm3⟩, rfl, hb4⟩
        have K5 := Lib.hid (K4.out.below hb4)
        have c0 := K5.out.blk.cell (i := 0) rfl
        have c1 := K5.out.blk.cell (i := 1) rfl
        have c2 := K5.out.blk.cell (i := 2) rfl
        have hlt5 := K5.out.blk.lt
        have hmi : (m : Int) ≤ tx.size := by omega
        have HP := PL.out w4 m hm1
        rw [hm2, hm3] at HP
        have HP := Lib.hid HP
        clear hb4 HO hp hm2 hm3 hcb
        rcases Nat.eq_zero_or_pos m with rfl | hmp
        all_goals
          try have hmp' : 0 < (m : Int) := by omega
          go_wp2_with fail
          refine HP.out.mono ?_; rintro e w' ⟨rfl, rfl⟩
          go_wp2_with fail
          refine (P3.out _ K5.out.made).mono ?_; rintro e w6 ⟨rfl, hb6⟩
          have K6 := Lib.hid (K5.out.below hb6)
          clear hb6 c0 c1 c2
          go_wp2_with fail
          refine (O3.out _ (K6.out.alloc _).made).mono ?_; rintro e w7 ⟨rfl, hb7⟩
          have K7 := Lib.hid ((K6.out.alloc _).below hb7)
          have c0 := K7.out.blk.cell (i := 0) rfl
          have c1 := K7.out.blk.cell (i := 1) rfl
          have c2 := K7.out.blk.cell (i := 2) rfl
          clear hb7
          go_wp2_with fail
          go_ret
          exact ⟨rfl, K7.out.bel⟩
      · have HO := Lib.hid (O2.out _ pl pc K4.out.made hcb hp)
        refine HO.out.mono ?_; rintro e w4 ⟨rfl, hb4⟩
        have K5 := Lib.hid (K4.out.below hb4)
        have c0 := K5.out.blk.cell (i := 0) rfl
        have c1 := K5.out.blk.cell (i := 1) rfl
        have c2 := K5.out.blk.cell (i := 2) rfl
        have hlt5 := K5.out.blk.lt
        have HPn := Lib.hid hp
        clear hb4 HO hp hcb
        go_wp2_with fail
        go_loop [15] (fun i => ∃ k : Nat, k ≤ tx.size + 1 ∧ i = .int .i64 k) (fun i => tx.size + 1 - (intOf i).toNat)
        case atStart => exact ⟨0, Nat.zero_le _, rfl⟩
        case round =>
          obtain ⟨k, hk, rfl⟩ := hrel
          by_cases hlt : k ≤ tx.size
          · have hki : (k : Int) ≤ tx.size := by omega
            have hpl := placed_of tx k hlt
            have HP := PL.out w4 k hlt
            have hne : ¬ (((plTo tx.data.toList k).1 : Int) = pl ∧ ((plTo tx.data.toList k).2 : Int) = pc) := fun ⟨a, b⟩ => HPn.out (a ▸ b ▸ hpl)
            generalize ((plTo tx.data.toList k).1 : Int) = A at *
            generalize ((plTo tx.data.toList k).2 : Int) = B at *
            have HP := Lib.hid HP
            clear hpl
            by_cases e1 : A = pl
            · have e2 : (B == pc) = false := by simp; exact fun e => hne ⟨e1, e⟩
              have e1' : (A == pl) = true := by simp [e1]
              clear e1 hne
              go_wp2_with fail
              refine HP.out.mono ?_; rintro e w' ⟨rfl, rfl⟩
              go_wp2_with fail
              go_round
              case rel => exact ⟨k + 1, by omega, by go_num⟩
              case measure => simp [intOf]; omega
            · have e1' : (A == pl) = false := by simp [e1]
              clear e1 hne
              go_wp2_with fail
              refine HP.out.mono ?_; rintro e w' ⟨rfl, rfl⟩
              go_wp2_with fail
              go_round
              case rel => exact ⟨k + 1, by omega, by go_num⟩
              case measure => simp [intOf]; omega
          · have hki : (tx.size : Int) < k := by omega
            clear hlt
            go_wp2_with fail
            go_ret
            exact ⟨rfl, K5.out.bel⟩
end Go.Proofs.Ytonippdileikbaa
