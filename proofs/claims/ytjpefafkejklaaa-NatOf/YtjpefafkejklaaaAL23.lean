/- An abstract program logic over tree values (part 23): loops with a measure; small words on numbers and texts. -/
import Derived.Test.YtjpefafkejklaaaAL22
set_option linter.unusedVariables false
set_option linter.unusedSimpArgs false
namespace Go.AL
open Go Go.RowKit

/-- A loop: the slots and live blocks that matter, told by an x; J: what holds of x; μ: what falls. -/
theorem SW.loopM {P : Program} {TT : Nat → Option TI} (hT : TTok P TT) {α : Type} {c : Code} {Q : Exit → St → Prop} {s : St} (ts : α → List (Nat × AV)) (hs : α → List (Nat × LB)) (n m : Nat) (hm : s.m = m)
    (μ : α → Nat) (J : α → Prop) (x0 : α) (σ0 : List (Nat × Nat)) (h0 : J x0) (e1 : okT s (σf σ0) n (ts x0)) (e2 : okH s (σf σ0) n (hs x0)) (e3 : distinct (((hs x0).map (·.1)).map (σf σ0)) = true)
    (round : ∀ x, J x → axp P TT c (loopQ Q fun s2 => ∃ (x' : α) (σ : List (Nat × Nat)), μ x' < μ x ∧ J x' ∧ okT s2 (σf σ) n (ts x') ∧ okH s2 (σf σ) n (hs x') ∧ distinct (((hs x').map (·.1)).map (σf σ)) = true) (mkS (ts x) (hs x) n m)) : SW P (.loop c) Q s := by
  refine SW.loop (fun k s1 => ∃ x, μ x = k ∧ J x ∧ s1 = mkS (ts x) (hs x) n m) (μ x0) (mkS (ts x0) (hs x0) n m) (Wk.of _ _ _ _ _ hm e1 e2 e3) hm.symm ⟨x0, rfl, h0, rfl⟩ ?_
  rintro k s1 hm1 ⟨x, rfl, hJ, rfl⟩
  refine ((axp_sound hT _ _ _ (round x hJ)).keep).mono fun e s' hq => ?_
  obtain ⟨hq, hms⟩ := hq
  cases e with
  | normal =>
    obtain ⟨x', σ, g1, g2, g3, g4, g5⟩ := hq
    exact ⟨μ x', mkS (ts x') (hs x') n m, g1, Wk.of _ _ _ _ _ (by rw [hms]; rfl) g3 g4 g5, (by rw [hms]; rfl), x', rfl, g2, rfl⟩
  | _ => exact hq

theorem valI {k : IntKind} {a b : Int} (h : a = b) : AV.val (.int k a) = AV.val (.int k b) := by rw [h]
theorem valB {a b : Bool} (h : a = b) : AV.val (.bool a) = AV.val (.bool b) := by rw [h]
theorem slE {sz : Nat} {a b : List (List AV)} {t : Bool} (h : a = b) : AV.sl sz a t = AV.sl sz b t := by rw [h]
theorem celE {sz : Nat} {a b : List (List AV)} (h : a = b) : some (LB.cells sz a) = some (LB.cells sz b) := by rw [h]
theorem ownE {id a b c d : Nat} (h1 : a = c) (h2 : b = d) : AV.own id a b = AV.own id c d := by rw [h1, h2]
theorem strE {a b : ByteArray} (h : a = b) : AV.val (.string a) = AV.val (.string b) := by rw [h]

theorem beqD {a b : Int} {p : Prop} [Decidable p] (h : a = b ↔ p) : (a == b) = decide p := by
  by_cases hp : p
  · rw [decide_eq_true hp]; exact beq_iff_eq.2 (h.2 hp)
  · rw [decide_eq_false hp]; exact beq_eq_false_iff_ne.2 (fun e => hp (h.1 e))
theorem bneD {a b : Int} {p : Prop} [Decidable p] (h : a ≠ b ↔ p) : (a != b) = decide p := by
  by_cases hp : p
  · rw [decide_eq_true hp]; exact bne_iff_ne.2 (h.2 hp)
  · rw [decide_eq_false hp]; simp only [bne, Bool.not_eq_false', beq_iff_eq]; exact Decidable.byContradiction (fun e => hp (h.1 e))
/-- The lowest bits of a number. -/
theorem and_mask (w : Nat) (x : Int) (hx : 0 ≤ x) (hb : x < 2 ^ w) (k : Nat) (hk : k ≤ w) : (BitVec.ofInt w x &&& BitVec.ofInt w ((2 ^ k - 1 : Nat) : Int)).toNat = x.toNat % 2 ^ k := by
  have hp : 2 ^ k ≤ 2 ^ w := Nat.pow_le_pow_right (by decide) hk
  have h1 : (BitVec.ofInt w x).toNat = x.toNat := by
    rw [BitVec.toNat_ofInt]
    congr 1
    exact Int.emod_eq_of_lt hx (by simpa using hb)
  have h2 : (BitVec.ofInt w ((2 ^ k - 1 : Nat) : Int)).toNat = 2 ^ k - 1 := by
    rw [BitVec.toNat_ofInt]
    have h0 : 0 < 2 ^ k := Nat.two_pow_pos k
    have : ((2 ^ k - 1 : Nat) : Int) % ((2 ^ w : Nat) : Int) = ((2 ^ k - 1 : Nat) : Int) := Int.emod_eq_of_lt (by omega) (by omega)
    rw [this]
    exact Int.toNat_natCast _
  rw [BitVec.toNat_and, h1, h2, Nat.and_two_pow_sub_one_eq_mod]
/-- A number's bits above those of another one. -/
theorem or_add (w : Nat) (a b : Nat) (k : Nat) (hb : b < 2 ^ k) (ha : a * 2 ^ k + b < 2 ^ w) : (BitVec.ofInt w ((a * 2 ^ k : Nat) : Int) ||| BitVec.ofInt w (b : Int)).toNat = a * 2 ^ k + b := by
  have h1 : (BitVec.ofInt w ((a * 2 ^ k : Nat) : Int)).toNat = a * 2 ^ k := by
    rw [BitVec.toNat_ofInt]
    have : ((a * 2 ^ k : Nat) : Int) % ((2 ^ w : Nat) : Int) = ((a * 2 ^ k : Nat) : Int) := Int.emod_eq_of_lt (by omega) (by omega)
    rw [this]; exact Int.toNat_natCast _
  have h2 : (BitVec.ofInt w (b : Int)).toNat = b := by
    rw [BitVec.toNat_ofInt]
    have : (b : Int) % ((2 ^ w : Nat) : Int) = (b : Int) := Int.emod_eq_of_lt (by omega) (by omega)
    rw [this]; exact Int.toNat_natCast _
  rw [BitVec.toNat_or, h1, h2, Nat.mul_comm, ← Nat.two_pow_add_eq_or_of_lt hb]

theorem or_add' (w : Nat) (a b : Nat) (k : Nat) (hb : b < 2 ^ k) (ha : a * 2 ^ k + b < 2 ^ w) : (BitVec.ofInt w (b : Int) ||| BitVec.ofInt w ((a * 2 ^ k : Nat) : Int)).toNat = a * 2 ^ k + b := by
  rw [BitVec.or_comm, or_add w a b k hb ha]
theorem tup2 {a b c d : AV} (h1 : a = c) (h2 : b = d) : AV.tup [a, b] = AV.tup [c, d] := by rw [h1, h2]
theorem tup3 {a b c d e f : AV} (h1 : a = c) (h2 : b = d) (h3 : e = f) : AV.tup [a, b, e] = AV.tup [c, d, f] := by rw [h1, h2, h3]

theorem w_u8 (a : Int) : IntKind.u8.wrap a = a % 256 := rfl
theorem w_u32 (a : Int) : IntKind.u32.wrap a = a % 4294967296 := rfl
theorem w_u64 (a : Int) : IntKind.u64.wrap a = a % 18446744073709551616 := rfl

end Go.AL
