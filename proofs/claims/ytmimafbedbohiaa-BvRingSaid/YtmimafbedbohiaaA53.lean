import Derived.Test.YtmimafbedbohiaaA49
namespace Go.Proofs.Ytmimafbedbohiaa
set_option linter.unusedVariables false
open Go.RowKit

theorem Tr.subs {w W : World} {ls ls'} (h : Tr w ls W) (hs : ∀ p ∈ ls', p ∈ ls) (hnd : (ls'.map (·.1)).Nodup) : Tr w ls' W := ⟨h.bel, fun p hp => h.blk p (hs p hp), fun p hp => h.ge p (hs p hp), hnd⟩

set_option maxRecDepth 100000 in
set_option maxHeartbeats 1000000 in
/-- the closure of BvRing -/
theorem op_any {w : World} {va vb : Value} {n m A B q x : Nat} {k err : Int} (hA : VR w va n A) (hB : VR w vb m B)
    (H : ∀ w', Below w.heap.size w w' → Calls Try.prog 15 #[.int .i64 k, va, vb] w' (RetE w' q x err)) :
    Calls Try.prog 32 #[.int .i64 k, va, vb] w (RetV w q x) := by
  have HO := Lib.hid H
  obtain ⟨pa, ca, rfl, _⟩ := hA.ex
  obtain ⟨pb, cb, rfl, _⟩ := hB.ex
  clear hA hB H
  go_enter Try.func32, Try.ntmps32
  go_wp2_with fail
  have hT := (((Tr.nil w).lay 26 [.int .i64 n, .slice pa (wcount n) ca]).lay 26 [.int .i64 m, .slice pb (wcount m) cb]).lay 26 [.int .i64 0, .slice none 0 0]
  simp only [World.size_alloc] at hT
  generalize ((w.alloc (.cells [Value.int .i64 n, .slice pa (wcount n) ca].toArray 26)).alloc (.cells [Value.int .i64 m, .slice pb (wcount m) cb].toArray 26)).alloc (.cells [Value.int .i64 0, .slice none 0 0].toArray 26) = W at *
  have HT := Lib.hid hT
  clear hT
  refine (HO.out _ HT.out.bel).mono ?_; rintro e w1 ⟨v, rfl, hv, hb, hf⟩
  obtain ⟨p, c, rfl, _⟩ := hv.ex
  have HT1 := Lib.hid (HT.out.below hb)
  have HV := Lib.hid (And.intro hv hf)
  have HLT := Lib.hid (HT.out.at 0 rfl).lt
  have r0 := fun o => ((HT1.out.at 0 rfl).alloc o).cell (i := 0) rfl
  have r1 := fun o => ((HT1.out.at 0 rfl).alloc o).cell (i := 1) rfl
  have f0 := fun o => ((HT1.out.at 0 rfl).alloc o).frz 0
  have f1 := fun o => ((HT1.out.at 0 rfl).alloc o).frz 1
  clear hv hb hf
  go_wp2_with fail
  have hne : ∀ b o, p = some ⟨b, o, none⟩ → b ≠ w.heap.size + 1 + 1 := Far.ne HV.out.2 HLT.out
  obtain ⟨e0, e1, hv, hbl⟩ := ret3 (w := w) (((HT1.out.lay 26 [.int .i64 q, .slice p (wcount q) c]).at 1 rfl)) (HT1.out.lay 26 [.int .i64 q, .slice p (wcount q) c]).bel (by omega) (HV.out.1.below (Below.new _ _)) hne
  exact bodyPost_ret (v := .agg #[.int .i64 q, .slice p (wcount q) c]) (by simp [results, Try.results32, go_sem, e0, e1]) rfl ⟨_, rfl, hv, hbl, fun k p' m' c' b o e h => Nat.le_trans HT.out.bel.size (HV.out.2 k p' m' c' b o e h)⟩
end Go.Proofs.Ytmimafbedbohiaa
