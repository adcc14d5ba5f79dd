/- An abstract program logic over tree values (part 8): append, copy, conversions of texts and rows. -/
import Derived.Test.YtjpefafkejklaaaAL7
set_option linter.unusedVariables false
set_option linter.unusedSimpArgs false
namespace Go.AL
open Go Go.RowKit

section
variable {P : Program} {TT : Nat → Option TI} {w0 w : World} {F0 F : Nat → Prop} {ρ : Nat → Option BI} {fr : Nat → Prop} {s : St} {a : Act} {b : Nat}

/-- Rows that stand in cells, loaded. -/
theorem cells_src {bl o size : Nat} {ys : List (List AV)} (hw : ∀ r ∈ ys, r.length = size) (hc : ∀ (j : Nat) (x : AV), ys.flatten[j]? = some x → ∃ v, w.cell? ⟨bl, o + j, none⟩ = some v ∧ v.oneCell' = true ∧ VR w F ρ v x) :
    ∃ news : List Value, news.length = ys.length * size ∧ CR w F ρ news.toArray ys.flatten ∧ ∀ m, m ≤ ys.length → ∀ w' : World, w'.heap = w.heap → (loadCells ⟨bl, o, none⟩ (m * size)).run P w' = .ok (news.take (m * size)).toArray w' := by
  have hfl := flat_len ys hw
  have hcell : ∀ j, j < ys.length * size → ∃ v, w.cell? ⟨bl, o + j, none⟩ = some v := fun j hj => by
    have hx : ys.flatten[j]? = some (ys.flatten[j]'(by omega)) := List.getElem?_eq_getElem (by omega)
    obtain ⟨v, h1, _⟩ := hc j _ hx
    exact ⟨v, h1⟩
  refine ⟨(List.range (ys.length * size)).map fun j => (w.cell? ⟨bl, o + j, none⟩).getD undef, by simp, ⟨by simp [hfl], fun j x hx => ?_⟩, fun m hm w' hw' => ?_⟩
  · have hj : j < ys.length * size := by have := (List.getElem?_eq_some_iff.1 hx).1; omega
    obtain ⟨v, h1, h2, h3⟩ := hc j x hx
    have e : (((List.range (ys.length * size)).map fun j => (w.cell? ⟨bl, o + j, none⟩).getD undef).toArray.getD j undef) = v := by simp [hj, h1]
    rw [e]
    exact ⟨h2, h3⟩
  · have hle : m * size ≤ ys.length * size := Nat.mul_le_mul_right _ hm
    rw [run_loadCells w' ⟨bl, o, none⟩ (m * size) (fun j => (w.cell? ⟨bl, o + j, none⟩).getD undef) (fun j hj => by
      obtain ⟨v, h1⟩ := hcell j (by omega)
      rw [addr_add, World.cell?_of_block (w := w) (w' := w') (by rw [hw']), h1]
      rfl)]
    congr 2
    rw [← List.map_take, List.take_range, Nat.min_eq_left hle]

/-- What is appended or copied. -/
theorem src_ok {y : Operand} {sz' size : Nat} {ys : List (List AV)} {ps : List Prop} {acc : Accs} (hR : Rel w0 F0 F ρ fr s a w) (hy : rsrc s.h (aval s.t y) = some (sz', ys, ps, acc)) (hps : allP ps) (hs : size = sz' ∨ ys = []) :
    (∀ w' : World, (Builtin.lenOf (a.eval y)).run P w' = .ok ys.length w') ∧ (∀ r ∈ ys, r.length = size) ∧
    ∃ news : List Value, news.length = ys.length * size ∧ CR w F ρ news.toArray ys.flatten ∧ ∀ m, m ≤ ys.length → ∀ w' : World, w'.heap = w.heap → (Builtin.firstCells size m (a.eval y)).run P w' = .ok (news.take (m * size)).toArray w' := by
  have hv := hR.aval y
  unfold rsrc at hy
  split at hy
  · rename_i sz rows tg hsl
    simp only [Option.some.injEq, Prod.mk.injEq] at hy
    obtain ⟨rfl, rfl, rfl, rfl⟩ := hy
    rw [hsl] at hv
    generalize hve : a.eval y = ve at hv
    cases hv with
    | sl A n cp _ _ _ bl of vals hn hcp htt hw hA g0 g1 g2 g3 =>
      subst hn
      have hw' : ∀ r ∈ rows, r.length = size := fun r hr => by
        rcases hs with h | h
        · rw [h]; exact hw r hr
        · rw [h] at hr; cases hr
      refine ⟨fun w' => by simp [Builtin.lenOf], hw', ?_⟩
      by_cases hne : rows = []
      · subst hne
        refine ⟨[], by simp, ⟨rfl, fun j x hx => by simp at hx⟩, fun m hm w' _ => ?_⟩
        have : m = 0 := by simpa using hm
        subst this
        cases A with
        | none => simp [Builtin.firstCells]
        | some ad => simp [Builtin.firstCells, loadCells, loadCellsFrom]
      · obtain ⟨e1, e2⟩ := hA hne
        obtain ⟨news, h1, h2, h3⟩ := cells_src (P := P) (w := w) (F := F) (ρ := ρ) (bl := bl) (o := of) hw' (fun j x hx => ⟨vals j, g0 j x hx, g1 j x hx, g2 j x hx⟩)
        refine ⟨news, h1, h2, fun m hm w' hw' => ?_⟩
        rw [e1]
        simp only [Builtin.firstCells]
        exact h3 m hm w' hw'
  · rename_i id off len hown
    split at hy
    · rename_i sz rows hlb
      simp only [Option.some.injEq, Prod.mk.injEq] at hy
      obtain ⟨rfl, rfl, rfl, rfl⟩ := hy
      simp only [allP] at hps
      obtain ⟨bi, q1, q2, q3, q4, q5, q6⟩ := hR.block hlb
      obtain ⟨bi', r1, r2, r3⟩ := hR.cell hlb
      rw [q1] at r1; injection r1 with r1; subst r1
      rw [hown] at hv
      generalize hve : a.eval y = ve at hv
      have hlen : ((rows.drop off).take len).length = len := by simp; omega
      cases hv with
      | own A _ _ _ cp bi' hr hl hA =>
        rw [q1] at hr; injection hr with hr; subst hr
        have hw' : ∀ r ∈ (rows.drop off).take len, r.length = size := fun r hr => by
          rcases hs with h | h
          · rw [h]; exact q3 r (List.mem_of_mem_drop (List.mem_of_mem_take hr))
          · rw [h] at hr; cases hr
        refine ⟨fun w' => by simp only [Builtin.lenOf, hlen]; rfl, hw', ?_⟩
        by_cases hl0 : len = 0
        · subst hl0
          refine ⟨[], by simp, ⟨by simp, fun j x hx => by simp at hx⟩, fun m hm w' _ => ?_⟩
          have : m = 0 := by simpa using hm
          subst this
          cases A with
          | none => simp [Builtin.firstCells]
          | some ad => simp [Builtin.firstCells, loadCells, loadCellsFrom]
        · obtain ⟨e1, e2⟩ := hA (by omega)
          obtain ⟨news, h1, h2, h3⟩ := cells_src (P := P) (w := w) (F := F) (ρ := ρ) (bl := bi.blk) (o := bi.base + off * bi.sz) hw' (fun j x hx => by
            have hsub : ((rows.drop off).take len) = (rows.take (off + len)).drop off := by rw [List.drop_take]; congr 1; omega
            rw [hsub] at hx
            have := r3 _ x (flat_sub q3 off (off + len) j x hx)
            rwa [← Nat.add_assoc, ← q2] at this)
          refine ⟨news, h1, h2, fun m hm w' hw' => ?_⟩
          rw [e1]
          simp only [Builtin.firstCells]
          exact h3 m hm w' hw'
    · cases hy
  · rename_i sv hsv
    simp only [Option.some.injEq, Prod.mk.injEq] at hy
    obtain ⟨rfl, rfl, rfl, rfl⟩ := hy
    rw [hsv] at hv
    have hve := hv.val_inv
    rw [hve]
    have hyl : (irows .u8 (bytesL sv)).length = sv.size := by simp [irows, bytesL]
    refine ⟨fun w' => by simp [Builtin.lenOf, hyl], fun r hr => ?_, ?_⟩
    · obtain ⟨n, hn, rfl⟩ := List.mem_map.1 hr
      rcases hs with h | h
      · rw [h]; rfl
      · exfalso
        have : (bytesL sv).length = 0 := by
          have := congrArg List.length h
          simpa [irows] using this
        rw [List.eq_nil_of_length_eq_zero this] at hn
        cases hn
    · have hfl : (irows .u8 (bytesL sv)).flatten = (bytesL sv).map fun n => AV.val (.int .u8 n) := by
        unfold irows
        induction bytesL sv with
        | nil => rfl
        | cons x l ih => simp [ih]
      rcases hs with h | h
      · subst h
        refine ⟨(bytesL sv).map fun n => Value.int .u8 n, by simp [irows], ⟨by rw [hfl]; simp, fun j x hx => ?_⟩, fun m hm w' _ => ?_⟩
        · rw [hfl, List.getElem?_map] at hx
          cases hj : (bytesL sv)[j]? with
          | none => simp [hj] at hx
          | some n =>
            simp [hj] at hx
            subst hx
            have e : ((bytesL sv).map fun n => Value.int .u8 n).toArray.getD j undef = .int .u8 n := by
              have hjl := (List.getElem?_eq_some_iff.1 hj).1
              simp [hjl, (List.getElem?_eq_some_iff.1 hj).2]
            rw [e]
            exact ⟨rfl, .val _⟩
        · simp only [Builtin.firstCells, Nat.mul_one, Sem.run_pure]
          congr 1
          apply Array.ext'
          have : (sv.extract 0 m).data.toList = sv.data.toList.take m := by simp
          simp only [Array.toList_map, this, bytesL, List.map_map, ← List.map_take]
          rfl
      · have hl0 : sv.size = 0 := by rw [← hyl, h]; rfl
        refine ⟨[], by simp [h], ⟨by rw [h]; rfl, fun j x hx => by rw [h] at hx; simp at hx⟩, fun m hm w' _ => ?_⟩
        have hm0 : m = 0 := by rw [h] at hm; simpa using hm
        subst hm0
        have he : (sv.extract 0 0) = ByteArray.empty := by
          apply ByteArray.ext; simp
        simp [Builtin.firstCells]
  · cases hy

set_option maxHeartbeats 1000000 in
theorem run_append_room' {t u ty e : TypeId} {i : TypeInfo} (ht : P.underlying t = some (.slice e)) (hu : (∃ e', P.underlying u = some (.slice e')) ∨ P.underlying u = some .string) (hi : P.info? e = some i)
    (base : Option Addr) (sLen sCap n : Nat) (x : Value) (news : List Value) (hlen : (Builtin.lenOf x).run P w = .ok n w) (hnews : (Builtin.firstCells i.size n x).run P w = .ok news.toArray w) (hroom : sLen + n ≤ sCap)
    (w2 : World) (hst : ∀ ad, base = some ad → (storeCells (ad.add (sLen * i.size)) news).run P w = .ok () w2) (hnone : base = none → w2 = w) :
    (Builtin.append_ #[t, u] ty #[.slice base sLen sCap, x]).run P w = .ok (.slice base (sLen + n) sCap) w2 := by
  have hsz : (sizeOf e).run P w = .ok i.size w := by simp [sizeOf, typeInfo, hi]
  have hfin : (do
      if let some a := base then storeCells (a.add (sLen * i.size)) news.toArray.toList
      pure (Value.slice base (sLen + n) sCap) : Sem Value).run P w = .ok (.slice base (sLen + n) sCap) w2 := by
    cases base with
    | none => rw [hnone rfl]; simp
    | some ad => simp [hst ad rfl]
  rcases hu with ⟨e', hu⟩ | hu
  · simp only [Builtin.append_, Sem.run_bind, run_underlying ht, run_underlying hu, Result.andThen_ok, hsz, Sem.run_pure, hlen, hroom, if_true, hnews, List.getElem?_toArray, List.getElem?_cons_zero, List.getElem?_cons_succ, Bool.false_eq_true, if_false, Bool.not_false] at hfin ⊢
    exact hfin
  · simp only [Builtin.append_, Sem.run_bind, run_underlying ht, run_underlying hu, Result.andThen_ok, hsz, Sem.run_pure, hlen, hroom, if_true, hnews, List.getElem?_toArray, List.getElem?_cons_zero, List.getElem?_cons_succ, Bool.false_eq_true, if_false, Bool.not_false] at hfin ⊢
    exact hfin

set_option maxHeartbeats 1000000 in
theorem run_append_grow' {t u ty e : TypeId} {i : TypeInfo} {z : Value} (ht : P.underlying t = some (.slice e)) (hu : (∃ e', P.underlying u = some (.slice e')) ∨ P.underlying u = some .string) (hi : P.info? e = some i) (hz : i.zero = some z)
    (base : Option Addr) (sLen sCap n : Nat) (x : Value) (olds news : List Value) (hlen : (Builtin.lenOf x).run P w = .ok n w) (holds : (Builtin.firstCells i.size sLen (.slice base sLen sCap)).run P w.drew = .ok olds.toArray w.drew)
    (hnews : (Builtin.firstCells i.size n x).run P w.drew = .ok news.toArray w.drew) (hg : sCap < sLen + n) (hb : (sLen + n) * i.bytes ≤ 140737488355328) (h63 : ((sLen + n : Nat) : Int) ≤ 9223372036854775807) :
    (Builtin.append_ #[t, u] ty #[.slice base sLen sCap, x]).run P w =
      .ok (.slice (some ⟨w.heap.size, 0, none⟩) (sLen + n) (grownCap w (sLen + n) sCap e))
        (w.drew.alloc (.cells (olds.toArray ++ news.toArray ++ Builtin.zeroCells z.cells (grownCap w (sLen + n) sCap e - (sLen + n))) e)) := by
  have hn : ¬ (sLen + n ≤ sCap) := by omega
  have hmax : IntKind.i64.max = 9223372036854775807 := by decide
  have h48 := growslice_fits hg hb
  have h48' : ¬ (Builtin.nextslicecap (sLen + n) sCap * i.bytes > 2 ^ 48) := by omega
  have hti : ∀ w, (typeInfo e).run P w = .ok i w := fun w => by simp [typeInfo, hi]
  have hsz : ∀ w, (sizeOf e).run P w = .ok i.size w := fun w => by simp [sizeOf, typeInfo, hi]
  have hzv : ∀ w, (zeroValue e).run P w = .ok z w := fun w => by simp [zeroValue, typeInfo, hi, hz]
  have h63' : ¬ (((sLen + n : Nat) : Int) > IntKind.i64.max ∧ (false = true ∨ i.bytes = 0)) := by rw [hmax]; omega
  have h63'' : ¬ (9223372036854775807 < (sLen : Int) + (n : Int) ∧ i.bytes = 0) := by omega
  have h48'' : ¬ (281474976710656 < Builtin.nextslicecap (sLen + n) sCap * i.bytes) := by omega
  have hch : (choose (.appendCap (sLen + n) sCap e)).run P w = .ok (grownCap w (sLen + n) sCap e) w.drew := by
    simp [run_choose, Question.forced, grownCap]
  rcases hu with ⟨e', hu⟩ | hu
  · simp only [Builtin.append_, Sem.run_bind, run_underlying ht, run_underlying hu, Result.andThen_ok, hsz, Sem.run_pure, hlen, hn, if_false, List.getElem?_toArray, List.getElem?_cons_zero, List.getElem?_cons_succ, h63', hti, h48', hch, run_askRoom, holds, hnews, Bool.false_eq_true, hzv, Bool.not_false, if_true]
    simp [newRow, h63'', hti, h48'', hsz, hzv, holds, hnews, Question.forced, grownCap]
    congr 2
    apply Array.ext'
    simp [List.append_assoc]
  · simp only [Builtin.append_, Sem.run_bind, run_underlying ht, run_underlying hu, Result.andThen_ok, hsz, Sem.run_pure, hlen, hn, if_false, List.getElem?_toArray, List.getElem?_cons_zero, List.getElem?_cons_succ, h63', hti, h48', hch, run_askRoom, holds, hnews, Bool.false_eq_true, hzv, Bool.not_false, if_true]
    simp [newRow, h63'', hti, h48'', hsz, hzv, holds, hnews, Question.forced, grownCap]
    congr 2
    apply Array.ext'
    simp [List.append_assoc]

theorem CR_append {c1 c2 : Array Value} {x1 x2 : List AV} (h1 : CR w F ρ c1 x1) (h2 : CR w F ρ c2 x2) (rest : Array Value) (j : Nat) (x : AV) (hx : (x1 ++ x2)[j]? = some x) :
    ((c1 ++ c2 ++ rest).getD j undef).oneCell' = true ∧ VR w F ρ ((c1 ++ c2 ++ rest).getD j undef) x := by
  have s1 := h1.1
  have s2 := h2.1
  rw [List.getElem?_append] at hx
  by_cases h : j < x1.length
  · rw [if_pos h] at hx
    have e : (c1 ++ c2 ++ rest).getD j undef = c1.getD j undef := by
      simp only [Array.getD_eq_getD_getElem?, Array.append_assoc, Array.getElem?_append]
      rw [if_pos (by omega)]
    rw [e]; exact h1.2 j x hx
  · rw [if_neg h] at hx
    have hj : j - x1.length < x2.length := (List.getElem?_eq_some_iff.1 hx).1
    have e : (c1 ++ c2 ++ rest).getD j undef = c2.getD (j - x1.length) undef := by
      simp only [Array.getD_eq_getD_getElem?, Array.append_assoc, Array.getElem?_append]
      rw [if_neg (by omega), if_pos (by omega), s1]
    rw [e]; exact h2.2 _ x hx

end
end Go.AL
