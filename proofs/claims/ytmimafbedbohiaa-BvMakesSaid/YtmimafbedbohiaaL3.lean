import Derived.Test.YtmimafbedbohiaaB5
import Derived.Test.YtmimafbedbohiaaB11
namespace Go.Proofs.Ytmimafbedbohiaa
set_option linter.unusedVariables false
open Go.RowKit Go.Deep Go.ChangeShapes Go.WideShapes

instance : Inhabited {x : Nat // x < 2 ^ 64} := ⟨⟨0, by decide⟩⟩
/-- a slice of uint64 that is read, and its capacity -/
theorem rc_u64 {H : Type} {enc : TypeId × Value → H} {P : Program} {w : World} {t e : Nat} {v : Value} {d : DataW H} {ps : List MemPlace} {r : Reach} {b0 : Nat}
    (ht : P.underlying t = some (.slice e)) (he : P.underlying e = some (.int .u64)) (hc : P.cellsOf e = 1)
    (hval : Value.okWide P w r b0 t v) (h : DataW.Trod enc P w 0 (fun _ => true) true t v d ps) :
    ∃ (l : List Nat) (p : Option Addr) (c : Nat), v = .slice p l.length c ∧ l.length ≤ c ∧ RO w v 1 l.length (natsV l) ∧ l.length ≤ maxLen ∧ ∀ x ∈ l, x < 2 ^ 64 := by
  obtain ⟨l0, h1, h2⟩ := ro_open ht hc Nat.one_pos (fun b : {x : Nat // x < 2 ^ 64} => [.int .u64 (b.1 : Nat)]) (fun _ => rfl) hval h (fun fuel cs x hx _ => by
    obtain ⟨b, hb, _, hw⟩ := DataW.trod_int he hx
    simp [Lit.wf, IntKind.min, IntKind.max, IntKind.signed, IntKind.bits] at hw
    obtain ⟨k, rfl⟩ : ∃ k : Nat, b = k := ⟨b.toNat, by omega⟩
    exact ⟨⟨k, by omega⟩, hb⟩)
  obtain ⟨l, hl⟩ : ∃ l : List Nat, l = l0.map (·.1) := ⟨_, rfl⟩
  have hlen : l.length = l0.length := by rw [hl]; simp
  have hcells : (l0.flatMap fun b : {x : Nat // x < 2 ^ 64} => [Value.int .u64 (b.1 : Nat)]) = natsV l := by
    rw [hl]; clear h1 h2 hl hlen; induction l0 <;> simp_all [natsV]
  rw [hcells, ← hlen] at h1
  obtain ⟨p, c, rfl⟩ := h1.form
  refine ⟨l, p, c, rfl, ?_, h1, by omega, fun x hx => by rw [hl] at hx; obtain ⟨y, _, rfl⟩ := List.mem_map.1 hx; exact y.2⟩
  obtain ⟨fuel, hfu⟩ := h
  rcases open_slice ht hfu with ⟨hcs, _⟩ | ⟨a, len, cap, m, n, D, Pl, hcs, _, hl', hm, hmm, _, hel⟩
  · simp [Value.cells] at hcs
    simp [hcs.2.1]
  · simp [Value.cells] at hcs
    obtain ⟨_, h5, h6⟩ := hcs
    have : m = cap := by simpa using hmm
    omega
end Go.Proofs.Ytmimafbedbohiaa
