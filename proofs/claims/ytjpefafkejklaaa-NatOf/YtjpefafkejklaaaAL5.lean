/- An abstract program logic over tree values (part 5): numbers, texts, cuts, conversions, structs and rows that are built. -/
import Derived.Test.YtjpefafkejklaaaAL4
set_option linter.unusedVariables false
set_option linter.unusedSimpArgs false
namespace Go.AL
open Go Go.RowKit

section
variable {P : Program} {TT : Nat → Option TI} {w0 w : World} {F0 F : Nat → Prop} {ρ : Nat → Option BI} {fr : Nat → Prop} {s : St} {a : Act} {b : Nat}

theorem eqGuard_int (op : BinOp) (t : TypeId) (x y : Operand) (k k' : IntKind) (m n : Int) (w : World) : (eqGuard op t x y (.int k m) (.int k' n)).run P w = .ok () w := by
  cases op <;> simp [eqGuard]
theorem eqGuard_str (op : BinOp) (t : TypeId) (x y : Operand) (m n : ByteArray) (w : World) : (eqGuard op t x y (.string m) (.string n)).run P w = .ok () w := by
  cases op <;> simp [eqGuard]
theorem eqGuard_bool (op : BinOp) (t : TypeId) (x y : Operand) (m n : Bool) (w : World) : (eqGuard op t x y (.bool m) (.bool n)).run P w = .ok () w := by
  cases op <;> simp [eqGuard]

theorem run_rbin {op : BinOp} {xt : Nat} {i : TI} {x y : Operand} {va vb : Value} {v : AV} {u : Ups} {acc : Accs} (ht : TIok P xt i)
    (hg : (rbin op i va vb).gives v u acc) (w : World) :
    u = [] ∧ ∃ r, v = .val r ∧ (do eqGuard op xt x y va vb; binOp op xt va vb : Sem Value).run P w = .ok r w := by
  cases va <;> cases vb <;> try (simp [rbin, Res.gives] at hg; done)
  case bool p q =>
    obtain ⟨d, inf, z, hu, hd, hi, h1, h2, h3, h4, h5, h6⟩ := ht
    simp only [rbin, Res.gives] at hg
    cases hid : i.d <;> simp only [hid, Res.gives] at hg
    all_goals try (exact hg.elim)
    have hd' : d = .bool := by rw [hid] at hd; cases d <;> simp [sdOf] at hd ⊢
    subst hd'
    cases op <;> simp only [Res.gives] at hg
    all_goals first
      | exact hg.elim
      | (obtain ⟨rfl, rfl, rfl⟩ := hg
         refine ⟨rfl, _, rfl, ?_⟩
         simp [eqGuard_bool, binOp, run_equal_bool _ _ _ _ hu])
  case int k m k' n =>
    cases op <;> simp only [rbin, Res.gives] at hg
    all_goals first
      | (obtain ⟨hc, rfl, rfl, rfl⟩ := hg
         refine ⟨rfl, _, rfl, ?_⟩
         have hn : ¬ n < 0 := by omega
         simp [eqGuard_int, binOp, Op.shift, hn]
         done)
      | (cases hk : ikeq k k' with
         | false => simp [hk, Res.gives] at hg
         | true =>
           have e := ikeq_eq hk
           subst e
           simp only [hk, cond_true, Res.gives] at hg
           first
             | (obtain ⟨hc, rfl, rfl, rfl⟩ := hg
                refine ⟨rfl, _, rfl, ?_⟩
                simp [eqGuard_int, binOp, Op.intDiv, hc]
                done)
             | (obtain ⟨rfl, rfl, rfl⟩ := hg
                refine ⟨rfl, _, rfl, ?_⟩
                simp [eqGuard_int, binOp, Op.intArith, Op.intBits, Op.intCmp]
                done))
  case string p q =>
    cases op <;> simp only [rbin, Res.gives] at hg
    all_goals first
      | exact hg.elim
      | (obtain ⟨rfl, rfl, rfl⟩ := hg
         refine ⟨rfl, _, rfl, ?_⟩
         simp [eqGuard_str, binOp, Op.stringOp]
         done)
      | (obtain ⟨hc, rfl, rfl, rfl⟩ := hg
         refine ⟨rfl, _, rfl, ?_⟩
         have hn : ¬ (IntKind.i64.max < ((p.size : Int) + (q.size : Int))) := by
           have : IntKind.i64.max = 9223372036854775807 := by decide
           rw [this]; omega
         have hm : IntKind.i64.max = 9223372036854775807 := by decide
         simp [eqGuard_str, binOp, Op.stringOp, hn]
         first | omega | (rw [hm]; omega) | skip
         done)

theorem run_runop {op : UnOp} {va : Value} {v : AV} {u : Ups} {acc : Accs}
    (hg : (runop op va).gives v u acc) (w : World) :
    u = [] ∧ ∃ r, v = .val r ∧ (Op.unary op va).run P w = .ok r w := by
  cases va <;> try (simp [runop, Res.gives] at hg; done)
  all_goals
    cases op <;> simp only [runop, Res.gives] at hg
    all_goals first
      | exact hg.elim
      | (obtain ⟨rfl, rfl, rfl⟩ := hg
         refine ⟨rfl, _, rfl, ?_⟩
         simp [Op.unary, Op.intArith, Op.intBits])


/-! rows and cells -/

/-- Cells that hold abstract cells. -/
def CR (w : World) (F : Nat → Prop) (ρ : Nat → Option BI) (cells : Array Value) (cs : List AV) : Prop :=
  cells.size = cs.length ∧ ∀ (j : Nat) (x : AV), cs[j]? = some x → (cells.getD j undef).oneCell' = true ∧ VR w F ρ (cells.getD j undef) x

theorem foldl_set_size (off : Nat) : ∀ (xs : List (Value × Nat)) (cells : Array Value), (xs.foldl (fun cs p => cs.setIfInBounds (off + p.2) p.1) cells).size = cells.size
  | [], _ => rfl
  | p :: xs, cells => by rw [List.foldl_cons, foldl_set_size off xs]; simp

theorem foldl_set_get (off : Nat) : ∀ (xs : List Value) (k : Nat) (cells : Array Value) (m : Nat), off + k + xs.length ≤ cells.size →
    ((xs.zipIdx k).foldl (fun cs p => cs.setIfInBounds (off + p.2) p.1) cells).getD m undef = if off + k ≤ m ∧ m < off + k + xs.length then xs.getD (m - (off + k)) undef else cells.getD m undef
  | [], k, cells, m, h => by simp; omega
  | x :: xs, k, cells, m, h => by
    simp only [List.length_cons] at h
    rw [List.zipIdx_cons, List.foldl_cons, foldl_set_get off xs (k + 1) _ m (by simp; omega)]
    by_cases h1 : m = off + k
    · subst h1
      rw [if_neg (by omega), if_pos (by simp)]
      have : off + k < cells.size := by omega
      simp [this]
    · have hs : (cells.setIfInBounds (off + k) x).getD m undef = cells.getD m undef := by
        simp [Array.getD_eq_getD_getElem?, Array.getElem?_setIfInBounds_ne (Ne.symm h1)]
      by_cases h2 : off + (k + 1) ≤ m ∧ m < off + (k + 1) + xs.length
      · rw [if_pos h2, if_pos (by simp; omega)]
        have e : m - (off + k) = m - (off + (k + 1)) + 1 := by omega
        rw [e]
        simp [List.getD]
      · rw [if_neg h2, if_neg (by simp; omega)]
        exact hs

theorem fill_ok {pa pc : Nat → Option (Nat × Nat)} (hp : ∀ k z, pa k = some z → pc k = some z) : ∀ (ps : List (Nat × Operand)) (cells : Array Value) (cs cs' : List AV), CR w F ρ cells cs →
    (∀ x, VR w F ρ (a.eval x) (AL.aval s.t x)) → fillA TT pa cs (ps.map fun p => (p.1, AL.aval s.t p.2)) = some cs' →
    ∃ cells', Instr.fill pc cells (ps.map fun p => (p.1, a.eval p.2)) = some cells' ∧ CR w F ρ cells' cs'
  | [], cells, cs, cs', hc, hv, h => by
    simp only [List.map_nil, fillA, Option.some.injEq] at h
    subst h
    exact ⟨cells, rfl, hc⟩
  | (k, x) :: ps, cells, cs, cs', hc, hv, h => by
    simp only [List.map_cons, fillA] at h
    cases hk : pa k with
    | none => simp [hk] at h
    | some z =>
      obtain ⟨off, size⟩ := z
      cases hx : (AL.aval s.t x).cells? with
      | none => simp [hk, hx] at h
      | some xs =>
        simp only [hk, hx] at h
        cases hb : (Nat.beq xs.length size && Nat.ble (off + size) cs.length) with
        | false => simp [hb] at h
        | true =>
          simp only [hb, cond_true] at h
          simp only [Bool.and_eq_true, Nat.beq_eq, Nat.ble_eq] at hb
          obtain ⟨hb1, hb2⟩ := hb
          have hb1' : xs.length = size := by simpa using hb1
          obtain ⟨g1, g2⟩ := (hv x).cells hx
          have hcs := hc.1
          have hlen : off + 0 + (a.eval x).cells.toList.length ≤ cells.size := by simp; omega
          let cells2 := ((a.eval x).cells.toList.zipIdx.foldl (fun cs p => cs.setIfInBounds (off + p.2) p.1) cells)
          have hc2 : CR w F ρ cells2 (spl cs off xs) := by
            refine ⟨by rw [foldl_set_size, spl_len _ _ _ (by omega)]; exact hcs, fun j y hy => ?_⟩
            rw [spl_get _ _ _ _ (by omega)] at hy
            have e := foldl_set_get off (a.eval x).cells.toList 0 cells j hlen
            show (cells2.getD j undef).oneCell' = true ∧ VR w F ρ (cells2.getD j undef) y
            rw [show cells2.getD j undef = _ from e]
            by_cases h1 : j < off
            · rw [if_pos h1] at hy
              rw [if_neg (by omega)]
              exact hc.2 j y hy
            · rw [if_neg h1] at hy
              by_cases h2 : j < off + xs.length
              · rw [if_pos h2] at hy
                rw [if_pos (by simp; omega)]
                have := g2 (j - off) y hy
                simpa [Array.getD_eq_getD_getElem?, List.getD] using this
              · rw [if_neg h2] at hy
                rw [if_neg (by simp; omega)]
                exact hc.2 j y hy
          obtain ⟨cells', r1, r2⟩ := fill_ok hp ps cells2 _ cs' hc2 hv h
          refine ⟨cells', ?_, r2⟩
          simp only [List.map_cons, Instr.fill, hp k _ hk]
          rw [if_neg (by simp; omega)]
          rw [← r1]
          congr 1
          rw [← Array.foldl_toList]
          simp only [Array.toList_zipIdx]
          rfl

theorem run_mapM_list {α β : Type} (f : α → Sem β) (g : α → β) (w : World) : ∀ (l : List α), (∀ x ∈ l, (f x).run P w = .ok (g x) w) → (l.mapM f).run P w = .ok (l.map g) w
  | [], _ => by simp
  | x :: l, h => by
    have ih := run_mapM_list f g w l (fun y hy => h y (by simp [hy]))
    simp [List.mapM_cons, h x (by simp), ih]

theorem run_mapM {α β : Type} (f : α → Sem β) (g : α → β) (w : World) (l : Array α) (h : ∀ x ∈ l.toList, (f x).run P w = .ok (g x) w) : (l.mapM f).run P w = .ok (l.map g) w := by
  obtain ⟨l⟩ := l
  have := run_mapM_list (P := P) f g w l h
  simp [this]

end
end Go.AL
