import Derived.Test.YtcifiibpiooeiaaB3
namespace Go.Proofs.Ytcifiibpiooeiaa
set_option linter.unusedVariables false
open Go.RowKit

theorem any_take {l : List Int} {p : Int → Bool} {k : Nat} (h : k < l.length) : (l.take (k + 1)).any p = ((l.take k).any p || p (l.getD k 0)) := by
  rw [take_snoc h, List.any_append]; simp

set_option maxRecDepth 100000 in
set_option maxHeartbeats 8000000 in
theorem rholds_any {F : Nat → Prop} {w : World} {sv mv : Value} {v : Nat} {cls : List (List Int)} {mb : List Bool} (h : RefC F w sv cls) (hw : WFC v cls) (hm : RO w mv 1 mb.length (bools mb)) :
    Calls Try.prog 20 #[.agg #[.int .i64 v, sv], mv] w fun e w' => e = .returned (.bool (holdsB mb cls)) ∧ Below w.heap.size w w' := by
  obtain ⟨ps, cs, rfl⟩ := h.form
  obtain ⟨pm, cm, rfl⟩ := hm.form
  obtain ⟨m, hml⟩ : ∃ m, mb.length = m := ⟨_, rfl⟩
  obtain ⟨N, hN⟩ : ∃ N, cls.length = N := ⟨_, rfl⟩
  have hb := Below.new w (.cells #[.int .i64 v, .slice ps cls.length cs] 28)
  have hB : Blk (w.alloc (.cells #[.int .i64 v, .slice ps cls.length cs] 28)) w.heap.size 28 [.int .i64 v, .slice ps cls.length cs] := Blk.new _ _
  obtain ⟨sls, hNl, hsl, hro, hrc⟩ := (h.below hb).ro
  have hrm := hm.below hb
  have hNi : (N : Int) ≤ 200000 := by have := hw.n; omega
  have hwl := hw.l
  have hvv := hw.hv
  have c0 := hB.cell (i := 0) rfl
  have c1 := hB.cell (i := 1) rfl
  have HW := Lib.hid (And.intro hml (And.intro hN (And.intro hwl hvv)))
  rw [hN] at hro hrc hsl c1 hb
  rw [hml] at hrm
  have H := Lib.hid (And.intro hro (And.intro hrc (And.intro hsl (And.intro hrm hb))))
  rw [hN, hml]
  rw [hN] at c0
  clear h hw hm hB hNl hro hrc hsl hrm hwl hvv hml hb
  rw [hN] at H
  clear hN
  go_enter Try.func20, Try.ntmps20
  go_wp2_with fail
  generalize w.alloc (.cells #[Value.int .i64 v, .slice ps N cs] 28) = W at *
  go_loop [5] (fun iv => ∃ i : Nat, i ≤ N ∧ iv = .int .i64 i ∧ ∀ j, j < i → (cls.getD j []).any (litB mb) = true) (fun iv => N - (intOf iv).toNat)
  case atStart => exact ⟨0, Nat.zero_le _, rfl, fun j hj => absurd hj (Nat.not_lt_zero _)⟩
  case round =>
    obtain ⟨i, hi, rfl, hz⟩ := hrel
    have HZ := Lib.hid hz
    clear hz
    by_cases hlt : i < N
    · have hat := slvs_at sls i (by rw [H.out.2.2.1]; exact hlt)
      obtain ⟨bl, ol, rfl⟩ := H.out.1.sl hat
      have f0 := H.out.1.cell hat
      have hr := H.out.2.1 i hlt
      have hrr := hr.ro
      have hwi := HW.out.2.2.1 i (by rw [HW.out.2.1]; exact hlt)
      obtain ⟨l, hle⟩ : ∃ l, cls.getD i [] = l := ⟨_, rfl⟩
      rw [hle] at hrr hwi hr
      have hs2 := hr.1
      unfold slv at f0 hrr
      rw [hs2] at f0 hrr
      generalize (sls.getD i default).1 = s1 at f0 hrr
      generalize (sls.getD i default).2.2 = s3 at f0 hrr
      obtain ⟨n, hn⟩ : ∃ n, l.length = n := ⟨_, rfl⟩
      have hni : (n : Int) ≤ 1000 := by have := hwi.2.2.2; omega
      rw [hn] at f0 hrr
      have HL := Lib.hid (And.intro hrr (And.intro hwi (And.intro hle (And.intro hn hlt))))
      have hii : (i : Int) < N := by omega
      have hiw : IntKind.i64.wrap ((i : Int) + 1) = (i : Int) + 1 := i64_of (by omega)
      clear hat hr hrr hwi hle hn hlt hs2 hi
      go_wp2_with fail
      go_loop [6, 7] (fun sv kv => ∃ k : Nat, kv = .int .i64 k ∧ k ≤ n ∧ sv = .bool ((l.take k).any (litB mb))) (fun _ kv => n - (intOf kv).toNat)
      case atStart => exact ⟨0, rfl, Nat.zero_le _, rfl⟩
      case round =>
      obtain ⟨k, rfl, hk, rfl⟩ := hrel
      by_cases hkn : k < n
      · have hat := ints_at l k (by rw [HL.out.2.2.2.1]; exact hkn)
        obtain ⟨b1, o1, rfl⟩ := HL.out.1.sl hat
        have g0 := HL.out.1.cell hat
        have hsn := any_take (l := l) (p := litB mb) (k := k) (by rw [HL.out.2.2.2.1]; exact hkn)
        obtain ⟨x, hx⟩ : ∃ x, l.getD k 0 = x := ⟨_, rfl⟩
        rw [hx] at g0 hsn
        have hxl := HL.out.2.1.2.1 x (by rw [← hx]; simp [List.getD, List.getElem?_eq_getElem (show k < l.length by rw [HL.out.2.2.2.1]; exact hkn)])
        have hvv := HW.out.2.2.2
        have HA := Lib.hid (abs_any x (by omega) W)
        obtain ⟨a, ha⟩ : ∃ a, x.natAbs = a := ⟨_, rfl⟩
        rw [ha] at HA
        have ha1 : 1 ≤ a ∧ a ≤ 60000 := by omega
        have hwr : IntKind.i64.wrap ((a : Int) - 1) = ((a - 1 : Nat) : Int) := by rw [i64_of (by omega)]; omega
        have hkw : IntKind.i64.wrap ((k : Int) + 1) = (k : Int) + 1 := i64_of (by omega)
        have hki : (k : Int) < n := by omega
        obtain ⟨sm, hsm⟩ : ∃ s, (l.take k).any (litB mb) = s := ⟨_, rfl⟩
        rw [hsm] at hsn
        have HK := Lib.hid (And.intro hsn (And.intro hkn hsm))
        obtain ⟨q1, hq1⟩ : ∃ q, a - 1 = q := ⟨_, rfl⟩
        rw [hq1] at hwr
        rw [hsm]
        by_cases hle : a ≤ m
        · have hbt := bools_at mb q1 (by rw [HW.out.1]; omega)
          obtain ⟨bm, om, rfl⟩ := H.out.2.2.2.1.sl hbt
          have m0 := H.out.2.2.2.1.cell hbt
          obtain ⟨q, hq⟩ : ∃ q, mb.getD q1 false = q := ⟨_, rfl⟩
          rw [hq] at m0
          have e : litB mb x = (q == decide (0 < x)) := by
            unfold litB; rw [ha, HW.out.1, hq1, hq, decide_eq_true hle, Bool.true_and]
          have HE := Lib.hid e
          have hle1 : (a : Int) ≤ m := by omega
          have hqm : (q1 : Int) < m := by omega
          clear hat hsn hx hxl hvv ha ha1 hkn hsm hq1 hle hbt hq e hk
          cases sm with
          | true =>
            go_wp2_with fail
            refine HA.out.mono ?_; rintro e w' ⟨rfl, rfl⟩
            go_wp2_with fail
            go_round
            case rel => exact ⟨k + 1, by go_num, HK.out.2.1, by first | (rw [HK.out.1]; done) | (rw [HK.out.1]; rfl)⟩
            case measure => have := HK.out.2.1; simp [intOf]; omega
          | false =>
            go_wp2_with fail
            refine HA.out.mono ?_; rintro e w' ⟨rfl, rfl⟩
            go_wp2_with fail
            go_round
            case rel => exact ⟨k + 1, by go_num, HK.out.2.1, by first | (rw [HK.out.1, HE.out, Bool.false_or]; done) | (rw [HK.out.1, HE.out, Bool.false_or]; rfl)⟩
            case measure => have := HK.out.2.1; simp [intOf]; omega
        · have e : litB mb x = (false == decide (0 < x)) := by
            unfold litB; rw [ha, HW.out.1, decide_eq_false hle, Bool.false_and]
          have HE := Lib.hid e
          have hd : decide ((a : Int) ≤ m) = false := decide_eq_false (by omega)
          have hli : (m : Int) < a := by omega
          clear hat hsn hx hxl hvv ha ha1 hkn hsm hq1 e hk
          cases sm with
          | true =>
            go_wp2_with fail
            refine HA.out.mono ?_; rintro e w' ⟨rfl, rfl⟩
            go_wp2_with fail
            go_round
            case rel => exact ⟨k + 1, by go_num, HK.out.2.1, by first | (rw [HK.out.1]; done) | (rw [HK.out.1]; rfl)⟩
            case measure => have := HK.out.2.1; simp [intOf]; omega
          | false =>
            go_wp2_with fail
            refine HA.out.mono ?_; rintro e w' ⟨rfl, rfl⟩
            go_wp2_with fail
            go_round
            case rel => exact ⟨k + 1, by go_num, HK.out.2.1, by rw [HK.out.1, HE.out, Bool.false_or]; simp⟩
            case measure => have := HK.out.2.1; simp [intOf]; omega
      · obtain rfl : k = n := by omega
        have htk : (l.take k).any (litB mb) = l.any (litB mb) := by rw [List.take_of_length_le (by rw [HL.out.2.2.2.1]; exact Nat.le_refl _)]
        obtain ⟨sm, hsm⟩ : ∃ s, l.any (litB mb) = s := ⟨_, rfl⟩
        rw [htk, hsm]
        have HS := Lib.hid hsm
        clear htk hsm hkn hk
        cases sm with
        | true =>
          go_wp2_with fail
          go_round
          case rel => exact ⟨i + 1, HL.out.2.2.2.2, by go_num, fun j hj => by
            by_cases e : j = i
            · subst e; rw [HL.out.2.2.1]; exact HS.out
            · exact HZ.out j (by omega)⟩
          case measure => have := HL.out.2.2.2.2; simp [intOf]; omega
        | false =>
          go_wp2_with fail
          go_ret
          have e : holdsB mb cls = false := by
            unfold holdsB
            refine List.all_eq_false.2 ⟨l, ?_, by rw [HS.out]; simp⟩
            rw [← HL.out.2.2.1]
            simp [List.getD, List.getElem?_eq_getElem (show i < cls.length by rw [HW.out.2.1]; exact HL.out.2.2.2.2)]
          rw [e]
          exact ⟨rfl, H.out.2.2.2.2⟩
    · obtain rfl : i = N := by omega
      have e : holdsB mb cls = true := by
        unfold holdsB
        refine List.all_eq_true.2 fun x hx => ?_
        obtain ⟨j, hj, ej⟩ := List.getElem_of_mem hx
        have := HZ.out j (by rw [← HW.out.2.1]; exact hj)
        rwa [show cls.getD j [] = x by simp [List.getD, List.getElem?_eq_getElem hj, ej]] at this
      have HE := Lib.hid e
      clear hlt hi e
      go_wp2_with fail
      go_ret
      rw [HE.out]
      exact ⟨rfl, H.out.2.2.2.2⟩
end Go.Proofs.Ytcifiibpiooeiaa
