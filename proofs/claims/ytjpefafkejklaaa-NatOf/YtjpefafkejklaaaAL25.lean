/- An abstract program logic over tree values (part 25): the empty slice as a live block of no rows. -/
import Derived.Test.YtjpefafkejklaaaAL24
set_option linter.unusedVariables false
set_option linter.unusedSimpArgs false
namespace Go.AL
open Go Go.RowKit

theorem Wk.nil {s : St} (d sz : Nat) {sz0 : Nat} (h : s.t d = .sl sz0 [] true) : Wk s ⟨upd s.t d (.own s.n 0 0), updH s.h s.n (some (.cells sz [])), s.n + 8, s.m⟩ := by
  intro w0 F0 a w ⟨F, ρ, hR⟩
  have h1 := hR.name s.n (Nat.le_refl _) ⟨0, 0, sz, 0⟩ (.cells sz []) ⟨rfl, (fun r hr => (nomatch hr)), fun _ => rfl, fun h => absurd h (Nat.lt_irrefl 0)⟩ (fun h => absurd h (Nat.lt_irrefl 0)) (fun h => absurd h (Nat.lt_irrefl 0))
  refine ⟨F, _, { h1 with vals := fun t => ?_, fresh := fun id hid => h1.fresh id ⟨by have : s.n + 8 ≤ id := hid; show s.n ≤ id; omega, by have : s.n + 8 ≤ id := hid; omega⟩ }⟩
  show VR w F _ _ (upd s.t d (.own s.n 0 0) t)
  by_cases e : t = d
  · subst e
    rw [upd_same]
    have hv := hR.vals t
    rw [h] at hv
    generalize a.tmps.getD t undef = v at hv
    cases hv with
    | sl A n c _ _ _ b o vals hn hc ht hw hA h0 h1 h2 hno =>
      have hn0 : n = 0 := hn
      have hc0 : c = 0 := by rw [ht rfl, hn0]
      subst hn0
      subst hc0
      exact .own A s.n 0 0 0 ⟨0, 0, sz, 0⟩ (by simp [putρ]) (Nat.le_refl _) (fun h => absurd h (Nat.lt_irrefl 0))
  · rw [upd_ne _ _ e]
    exact h1.vals t

/-- The empty slice of a slot is taken as a live block. -/
theorem SW.nil {P : Program} {c : Code} {Q : Exit → St → Prop} {s : St} (d sz : Nat) {sz0 : Nat} (h : s.t d = .sl sz0 [] true)
    (hs : SW P c Q ⟨upd s.t d (.own s.n 0 0), updH s.h s.n (some (.cells sz [])), s.n + 8, s.m⟩) : SW P c Q s := SW.weak (Wk.nil d sz h) rfl hs

end Go.AL
