import Derived.Test.YtoccghbkfnalgaaC4
import Derived.Test.YtoccghbkfnalgaaP8
namespace Go.Proofs.Ytoccghbkfnalgaa
set_option linter.unusedVariables false
open Go.RowKit

/-- what holds at the head of AigOnce's loop -/
structure ORel (w : World) (B bg ms : Nat) (g : G) (n : Nat) (F : Nat → Prop) (wr : World) : Prop where
  gr : HasG wr bg F g
  m : ∃ (es : List MapEntry) (ck : Nat), wr.heap[ms]? = some (.map es.toArray ck) ∧ Ents es (seenTo g n)
  fm : ¬ F ms
  fB : ∀ j, F j → B ≤ j
  mB : B ≤ ms
  b : Below B w wr

theorem ORel.upd {w B bg ms g n F wr w2 F'} (h : ORel w B bg ms g n F wr) (hg : HasG w2 bg F' g) (hu : Upd F F' wr w2) : ORel w B bg ms g n F' w2 := by
  obtain ⟨es, ck, h1, h2⟩ := h.m
  have hlt := some_lt h1
  refine ⟨hg, ⟨es, ck, by rw [hu.block ms hlt h.fm]; exact h1, h2⟩, fun hf => ?_, fun j hf => ?_, h.mB, h.b.trans (hu.toBelow h.fB (Nat.le_trans h.mB (Nat.le_of_lt hlt)))⟩
  · rcases hu.sub _ hf with h' | h'
    · exact h.fm h'
    · omega
  · rcases hu.sub _ hf with h' | h'
    · exact h.fB j h'
    · have := h.mB; omega

theorem ORel.below {w B bg ms g n F wr w2} (h : ORel w B bg ms g n F wr) (hb : Below wr.heap.size wr w2) : ORel w B bg ms g n F w2 :=
  h.upd (h.gr.below hb) (Upd.below hb)

theorem ORel.skip {w B bg ms g n F wr} (h : ORel w B bg ms g n F wr) (hp : (g.nodes.getD n (0, 0)).1 = -1) : ORel w B bg ms g (n + 1) F wr := by
  obtain ⟨es, ck, h1, h2⟩ := h.m
  exact ⟨h.gr, ⟨es, ck, h1, by rw [seenTo, if_pos hp]; exact h2⟩, h.fm, h.fB, h.mB, h.b⟩

theorem ORel.put {w B bg ms g n F wr} (h : ORel w B bg ms g n F wr) (hp : (g.nodes.getD n (0, 0)).1 ≠ -1) {es : List MapEntry} {ck ck' : Nat} {e : MapEntry} (hes : Ents es (seenTo g n)) (hm : wr.heap[ms]? = some (.map es.toArray ck))
    (he : entryOf e (g.nodes.getD n (0, 0), (n : Int))) : ORel w B bg ms g (n + 1) F { wr with heap := wr.heap.setIfInBounds ms (.map (es ++ [e]).toArray ck') } := by
  obtain ⟨vn, vi, bm, hG, rfl⟩ := h.gr
  have hlt := some_lt hm
  have hne : ∀ k, k ≠ ms → (wr.heap.setIfInBounds ms (.map (es ++ [e]).toArray ck'))[k]? = wr.heap[k]? := fun k hk => by
    rw [Array.getElem?_setIfInBounds_ne (Ne.symm hk)]
  refine ⟨⟨_, _, _, hG.keep fun k hk => hne k (fun e => h.fm (e ▸ hk)), rfl⟩, ⟨_, ck', by show (wr.heap.setIfInBounds ms _)[ms]? = _; rw [Array.getElem?_setIfInBounds_self_of_lt hlt], ?_⟩, h.fm, h.fB, h.mB, h.b.trans ⟨rfl, rfl, rfl, by simp, fun k hk => hne k (by have := h.mB; omega)⟩⟩
  rw [seenTo, if_neg hp]
  exact hes.snoc he

set_option maxRecDepth 100000 in
set_option maxHeartbeats 4000000 in
theorem once_any (w : World) (va : Value) (acts : List Actn) (ha : RO w va 4 acts.length (actCells acts)) (hal : acts.length ≤ 9223372036854775807) :
    Calls Try.prog 3 #[va] w fun e w' => e = .returned (.bool true) ∧ Below w.heap.size w w' := by
  have HA := Lib.hid (awake_any w)
  have hmm := @run_makeMap Try.prog
  have H := Lib.hid (And.intro ha hal)
  clear ha hal
  go_enter Try.func3, Try.ntmps3
  go_wp2_with fail
  refine HA.out.mono ?_
  rintro e w1 ⟨rfl, hb1⟩
  have K1 := Lib.hid hb1
  clear hb1
  go_wp2_with fail
  refine (plain_any w1 va acts (H.out.1.below K1.out) H.out.2).mono ?_
  rintro e w2 ⟨vp, rfl, hp, hb2⟩
  have K2 := Lib.hid (And.intro hp (Below.then K1.out hb2 (Nat.le_refl _)))
  have hpl := Lib.hid (plain_len acts)
  have hpk := Lib.hid (plain_kinds acts)
  clear hp hb2
  generalize plainActs acts = P at *
  go_wp2_with fail
  refine (build_any w2 vp P K2.out.1 (by have := hpl.out; omega) hpk.out).mono ?_
  rintro e w3 ⟨bg, F, vl, rfl, hG3, hl3, hf3, hF3, hb3⟩
  have hwf := build_wf P P.length
  have hinv := build_inv P P.length
  have hlen : (buildTo P P.length).1.nodes.length ≤ 200 := by have := hinv.hi; have := hpl.out; omega
  have hil : (buildTo P P.length).1.inputs.length ≤ 200 := by have := hinv.il; have := hpl.out; omega
  generalize (buildTo P P.length).1 = g at *
  have HW := Lib.hid (And.intro hwf (And.intro hlen hil))
  have hB3 : w.heap.size ≤ w3.heap.size := (Below.then K2.out.2 hb3 (Nat.le_refl _)).size
  have K3 : Hid (ORel w w.heap.size bg w3.heap.size g 0 F (w3.alloc (.map #[] 0))) := Lib.hid (by
    have hb : Below w3.heap.size w3 (w3.alloc (.map #[] 0)) := (Below.refl _ _).alloc (Nat.le_refl _) _
    exact ⟨hG3.below hb, ⟨[], 0, new_at _ _ _ rfl, trivial⟩, fun hf => Nat.lt_irrefl _ (hG3.lt _ hf), fun j hj => by have := hF3 j hj; have := K2.out.2.size; omega, hB3, Below.then (Below.then K2.out.2 hb3 (Nat.le_refl _)) hb (Nat.le_refl _)⟩)
  have hln : (g.nodes.length : Int) ≤ 200 := by omega
  have hpos : (0 : Int) < g.nodes.length := by have := hwf.pos; omega
  clear hG3 hl3 hf3 hF3 hb3 hwf hinv hlen hil hB3
  generalize hms : w3.heap.size = ms at *
  go_wp2_with fail
  generalize hB : w.heap.size = B at *
  go_loopw [6, 8] (fun c i wr => ∃ n F, n ≤ g.nodes.length ∧ 0 < n ∧ i = .int .i64 ((n : Nat) : Int) ∧ c = .int .i64 (inCnt g n : Int) ∧ ORel w B bg ms g n F wr) (fun _ i _ => g.nodes.length - (intOf i).toNat)
  case atStart => 
    have hz := HW.out.1.zero
    exact ⟨1, F, by omega, Nat.one_pos, rfl, by simp [inCnt], K3.out.skip hz⟩
  case round =>
    obtain ⟨n, F1, hn, hn0, rfl, rfl, hrel⟩ := hrel
    have HR := Lib.hid hrel
    clear hrel
    go_wp2_with fail
    refine (len_has HR.out.gr).mono ?_; rintro e w' ⟨rfl, rfl⟩
    by_cases hlt : n < g.nodes.length
    · obtain ⟨a, b, hab⟩ : ∃ a b, g.nodes.getD n (0, 0) = (a, b) := ⟨_, _, rfl⟩
      have hcl := inCnt_le g n
      by_cases hin : a = -1
      · have HF := Lib.hid (fan_in HR.out.gr n hlt (by omega) b (by rw [hab, hin]))
        have hnx := Lib.hid (show inCnt g (n + 1) = inCnt g n + 1 by rw [inCnt, if_pos ⟨by rw [hab, hin], hn0⟩])
        have hsk := Lib.hid (HR.out.skip (by rw [hab, hin]))
        have HI := Lib.hid (And.intro hab hin)
        clear hab hin
        go_wp2_with fail
        refine HF.out.mono ?_; rintro e w' ⟨rfl, rfl⟩
        go_wp2_with fail
        go_roundw
        case rel => exact ⟨n + 1, F1, hlt, by omega, by go_num, by rw [hnx.out]; go_num, hsk.out⟩
        case measure => simp [intOf]; omega
      · have HF := Lib.hid (fan_and HR.out.gr n hlt (by omega) a b hab hin)
        have hnx := Lib.hid (show inCnt g (n + 1) = inCnt g n by rw [inCnt, if_neg (fun h => hin (by rw [hab] at h; exact h.1))])
        obtain ⟨ag1, ag2, ag3, ag4, ag5, ag6, ag7⟩ := again g HW.out.1 n hlt a b hab hin
        have hne : (g.nodes.getD n (0, 0)).1 ≠ -1 := by rw [hab]; exact hin
        have hsn := seen_none g HW.out.1 n hlt hne
        rw [hab] at hsn
        obtain ⟨es, ck, hm, hes⟩ := HR.out.m
        have hab40 : b < 2 ^ 40 := by omega
        have hb0 : 0 ≤ b := by omega
        have e7 : (a == tnot b) = false := by simp [ag7]
        have HN := Lib.hid (fun w => not_any b w hb0 (by omega))
        have HA2 := Lib.hid (And.intro ag1 (And.intro ag2 (And.intro ag3 (And.intro hne (And.intro hab (And.intro hes hm))))))
        have HS := Lib.hid hsn
        clear ag1 ag2 ag3 ag7 hne hab hes hm hsn hin
        go_wp2_with fail
        refine HF.out.mono ?_
        rintro e w' ⟨d, rfl, rfl⟩
        have HR1 := Lib.hid (HR.out.below (below_drewN d))
        have hlk : (Instr.lookup 29 (.map (some ms)) (.agg #[.int .i64 a, .int .i64 b]) false).run Try.prog (wr.drewN d) = .ok (.int .i64 0) (wr.drewN d) := by
          have := lookup29 (w := wr.drewN d) HA2.out.2.2.2.2.2.2 HA2.out.2.2.2.2.2.1 a b
          rw [HS.out] at this; exact this
        obtain ⟨en, hen, hup⟩ := update29 (w := wr.drewN d) HA2.out.2.2.2.2.2.2 HA2.out.2.2.2.2.2.1 a b n HS.out
        have HP := Lib.hid (HR1.out.put (ck' := ck + 1) HA2.out.2.2.2.1 HA2.out.2.2.2.2.2.1 HA2.out.2.2.2.2.2.2 (by rw [HA2.out.2.2.2.2.1]; exact hen))
        clear hen
        generalize hW2 : ({ wr.drewN d with heap := (wr.drewN d).heap.setIfInBounds ms (.map (es ++ [en]).toArray (ck + 1)) } : World) = W2 at *
        clear hW2
        go_wp2_with fail
        refine (HN.out _).mono ?_; rintro e w' ⟨rfl, rfl⟩
        go_wp2_with fail
        have HI := and_any W2 bg F1 b a g HP.out.gr (by omega) HA2.out.2.2.1 HA2.out.2.1 HW.out.1.knw
        rw [HA2.out.1] at HI
        have HI := Lib.hid HI
        refine HI.out.mono ?_
        rintro e w4 ⟨rfl, F2, hg4, hu4⟩
        have H4 := Lib.hid (HP.out.upd hg4 hu4)
        clear hg4 hu4
        go_wp2_with fail
        go_roundw
        case rel => exact ⟨n + 1, F2, hlt, by omega, by go_num, by rw [hnx.out], H4.out⟩
        case measure => simp [intOf]; omega
    · obtain rfl : n = g.nodes.length := by omega
      have hall := inCnt_all g HW.out.1
      rw [hall]
      clear hall
      go_wp2_with fail
      obtain ⟨z, hz⟩ : ∃ z, g.nodes.getD 0 (0, 0) = (-1, z) := ⟨(g.nodes.getD 0 (0, 0)).2, by rw [← HW.out.1.zero]⟩
      have F0 : Hid (Calls Try.prog 11 #[.pointer (some ⟨bg, 0, none⟩), .int .i64 0] wr fun e w' => e = .returned (.tuple #[.int .i64 0, .int .i64 0, .bool false]) ∧ wr = w') := Lib.hid (fan_in HR.out.gr 0 HW.out.1.pos (by omega) z hz)
      clear hz
      have HLn := Lib.hid (len_has HR.out.gr)
      have FF := Lib.hid (fan_far HR.out.gr g.nodes.length (Int.le_refl _) (by omega))
      have A0 := Lib.hid (and_bad HR.out.gr (by omega) (2 * (g.nodes.length : Int)) 0 (by omega) (fun h => by have := h.2; omega))
      have l0 : g.lit 0 := ⟨by omega, by omega⟩
      have O0 := Lib.hid (or_bad HR.out.gr (by omega) 0 (-1) l0 (by omega) (fun h => by have := h.1; omega))
      have M0 := Lib.hid (mux_bad HR.out.gr (by omega) 0 0 (2 * (g.nodes.length : Int) + 1) l0 (by omega) (fun h => by have := h.2; omega))
      have I0 := Lib.hid (inputs_has HR.out.gr)
      clear l0
      refine F0.out.mono ?_; rintro e w' ⟨rfl, rfl⟩
      go_wp2_with fail
      refine HLn.out.mono ?_; rintro e w' ⟨rfl, rfl⟩
      go_wp2_with fail
      refine FF.out.mono ?_; rintro e w' ⟨rfl, rfl⟩
      go_wp2_with fail
      refine HLn.out.mono ?_; rintro e w' ⟨rfl, rfl⟩
      go_wp2_with fail
      refine A0.out.mono ?_; rintro e w' ⟨rfl, rfl⟩
      go_wp2_with fail
      refine O0.out.mono ?_; rintro e w' ⟨rfl, rfl⟩
      go_wp2_with fail
      refine HLn.out.mono ?_; rintro e w' ⟨rfl, rfl⟩
      go_wp2_with fail
      refine M0.out.mono ?_; rintro e w' ⟨rfl, rfl⟩
      go_wp2_with fail
      refine I0.out.mono ?_; rintro e w' ⟨rfl, rfl⟩
      go_wp2_with fail
      go_ret
      exact ⟨rfl, hB ▸ HR.out.b⟩
end Go.Proofs.Ytoccghbkfnalgaa
