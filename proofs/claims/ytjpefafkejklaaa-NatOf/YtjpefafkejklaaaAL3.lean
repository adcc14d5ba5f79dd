/- An abstract program logic over tree values (part 3): every operation does to the machine what it does to the abstract state. -/
import Derived.Test.YtjpefafkejklaaaAL2
set_option linter.unusedVariables false
set_option linter.unusedSimpArgs false
namespace Go.AL
open Go Go.RowKit

theorem flat_get {α : Type} {sz : Nat} (hs : 0 < sz) : ∀ (rows : List (List α)) (hw : ∀ r ∈ rows, r.length = sz) (j : Nat), rows.flatten[j]? = (rows[j / sz]?).bind fun r => r[j % sz]?
  | [], _, j => by simp
  | r :: rows, hw, j => by
    have hr : r.length = sz := hw r (by simp)
    have ih := flat_get hs rows (fun q hq => hw q (by simp [hq]))
    rw [List.flatten_cons, List.getElem?_append]
    by_cases h : j < sz
    · simp [hr, h, Nat.div_eq_of_lt h, Nat.mod_eq_of_lt h]
    · rw [if_neg (by omega), hr, ih]
      have h1 : j / sz = (j - sz) / sz + 1 := by
        have := Nat.div_eq_sub_div hs (show sz ≤ j by omega)
        omega
      have h2 : j % sz = (j - sz) % sz := Nat.mod_eq_sub_mod (by omega)
      rw [h1, h2]
      simp

theorem flat_len {α : Type} {sz : Nat} : ∀ (rows : List (List α)) (hw : ∀ r ∈ rows, r.length = sz), rows.flatten.length = rows.length * sz
  | [], _ => by simp
  | r :: rows, hw => by
    have hr : r.length = sz := hw r (by simp)
    have ih := flat_len rows (fun q hq => hw q (by simp [hq]))
    simp only [List.flatten_cons, List.length_append, ih, hr, List.length_cons, Nat.add_mul, Nat.one_mul]
    omega

theorem flat_row {α : Type} {sz : Nat} {rows : List (List α)} (hw : ∀ r ∈ rows, r.length = sz) {r c : Nat} {row : List α} {x : α} (hr : rows[r]? = some row) (hx : row[c]? = some x) : rows.flatten[r * sz + c]? = some x := by
  have hl : row.length = sz := hw row (List.mem_of_getElem? hr)
  have hc : c < sz := by have := (List.getElem?_eq_some_iff.1 hx).1; omega
  rw [flat_get (by omega) rows hw]
  have h1 : (r * sz + c) / sz = r := by rw [Nat.mul_comm, Nat.mul_add_div (by omega), Nat.div_eq_of_lt hc]; rfl
  have h2 : (r * sz + c) % sz = c := by rw [Nat.mul_comm, Nat.mul_add_mod, Nat.mod_eq_of_lt hc]
  rw [h1, h2, hr]
  exact hx

theorem addr_add (b o j : Nat) : (⟨b, o, none⟩ : Addr).add j = ⟨b, o + j, none⟩ := by unfold Addr.add; split <;> simp_all

section
variable {P : Program} {TT : Nat → Option TI}

theorem run_sizeOf {t : Nat} {i : TI} (h : TIok P t i) (w : World) : (sizeOf t).run P w = .ok i.size w := by
  obtain ⟨d, inf, z, hu, hd, hi, h1, h2, h3, h4, h5, h6⟩ := h
  simp [sizeOf, typeInfo, hi, h1]

theorem run_loadVar' {t : Nat} {i : TI} (h : TIok P t i) (hs : match i.d with | .struct _ => True | .other => False | _ => i.size = 1) (w : World) (b o : Nat) (vals : Nat → Value)
    (hc : ∀ j, j < i.size → w.cell? ⟨b, o + j, none⟩ = some (vals j)) :
    (loadVar t ⟨b, o, none⟩).run P w = .ok (match i.d with | .struct _ => .agg ((List.range i.size).map vals).toArray | _ => vals 0) w := by
  have hsz := run_sizeOf h w
  obtain ⟨d, inf, z, hu, hd, hi, h1, h2, h3, h4, h5, h6⟩ := h
  have hone : i.size = 1 → (load (⟨b, o, none⟩ : Addr)).run P w = .ok (vals 0) w := by
    intro h1'
    have := hc 0 (by omega)
    simp only [Nat.add_zero] at this
    simp [this]
  rw [← hd] at hs ⊢
  cases d <;> simp only [sdOf] at hs ⊢ <;> simp [loadVar, isAgg, run_underlying hu]
  all_goals first
    | (have := hone hs; simpa using this)
    | skip
  · rw [hsz]
    simp only [Result.andThen_ok]
    rw [run_loadCells w ⟨b, o, none⟩ i.size vals (fun j hj => by rw [addr_add]; exact hc j hj)]
    simp

theorem run_storeVar' {t : Nat} {i : TI} (h : TIok P t i) (v : Value) (hv : v.cells.size = i.size) (w : World) (g o : Nat) (cur : Array Value) (ty : TypeId) (hg : w.heap[g]? = some (.cells cur ty (0, 0)))
    (hfit : o + i.size ≤ cur.size) (h1 : ∀ x ∈ v.cells.toList, x.oneCell' = true) :
    (storeVar t ⟨g, o, none⟩ v).run P w = .ok () (w.setRow g (cur.toList.take o ++ v.cells.toList ++ cur.toList.drop (o + i.size)).toArray) := by
  have hsz := run_sizeOf h w
  have hst := run_storeCells_at P g o ty v.cells.toList 0 cur w hg (by simp [hv]; omega) h1
  simp only [Nat.add_zero, Array.length_toList, hv] at hst
  simp only [storeVar, Sem.run_bind, hsz, Result.andThen_ok]
  rw [if_neg (by simp [hv])]
  exact hst

end

theorem VR.cells {w : World} {F : Nat → Prop} {ρ : Nat → Option BI} {v : Value} {x : AV} {cs : List AV} (h : VR w F ρ v x) (hc : x.cells? = some cs) :
    v.cells.size = cs.length ∧ ∀ (j : Nat) (y : AV), cs[j]? = some y → (v.cells.getD j undef).oneCell' = true ∧ VR w F ρ (v.cells.getD j undef) y := by
  have one : ∀ (v : Value) (y : AV), v.oneCell' = true → VR w F ρ v y → v.cells.size = [y].length ∧ ∀ (j : Nat) (z : AV), [y][j]? = some z → (v.cells.getD j undef).oneCell' = true ∧ VR w F ρ (v.cells.getD j undef) z := by
    intro v y hv hy
    have e : v.cells = #[v] := by cases v <;> first | rfl | (simp [Value.oneCell'] at hv)
    rw [e]
    refine ⟨rfl, fun j z hz => ?_⟩
    cases j with
    | zero => simp at hz; subst hz; exact ⟨hv, hy⟩
    | succ j => simp at hz
  cases h with
  | any v => simp [AV.cells?] at hc
  | tup vs cs' h h2 => simp [AV.cells?] at hc
  | agg vs cs' h h1 h2 =>
    simp only [AV.cells?, Option.some.injEq] at hc
    subst hc
    exact ⟨h, fun j y hy => ⟨h1 j y hy, h2 j y hy⟩⟩
  | val v =>
    simp only [AV.cells?] at hc
    cases hv : v.oneCell' with
    | false => simp [hv] at hc
    | true =>
      simp [hv] at hc
      subst hc
      exact one v _ hv (.val v)
  | sl A n c sz rows t b o vals hn hcc ht hw hA h0 h1 h2 hno =>
    simp only [AV.cells?, Option.some.injEq] at hc; subst hc
    exact one _ _ rfl (.sl A n c sz rows t b o vals hn hcc ht hw hA h0 h1 h2 hno)
  | fp row c b o vals hF h0 h1 h2 hno => simp only [AV.cells?, Option.some.injEq] at hc; subst hc; exact one _ _ rfl (.fp row c b o vals hF h0 h1 h2 hno)
  | own A id off len cap bi hr hl hA => simp only [AV.cells?, Option.some.injEq] at hc; subst hc; exact one _ _ rfl (.own A id off len cap bi hr hl hA)
  | lp id c bi hr => simp only [AV.cells?, Option.some.injEq] at hc; subst hc; exact one _ _ rfl (.lp id c bi hr)
  | li id r c bi hr => simp only [AV.cells?, Option.some.injEq] at hc; subst hc; exact one _ _ rfl (.li id r c bi hr)
  | it id bi hr => simp only [AV.cells?, Option.some.injEq] at hc; subst hc; exact one _ _ rfl (.it id bi hr)

theorem VR.ofV (w : World) (F : Nat → Prop) (ρ : Nat → Option BI) (v : Value) : VR w F ρ v (AV.ofV v) := by
  unfold AV.ofV
  split
  · exact .sl none 0 0 0 [] true 0 0 (fun _ => undef) rfl (Nat.le_refl _) (fun _ => rfl) (fun r hr => by cases hr) (fun h => absurd rfl h) (fun j x hx => by simp at hx) (fun j x hx => by simp at hx) (fun j x hx => by simp at hx) (fun j x hx => by simp at hx)
  · exact .val v

/-- An operand as the abstract state has it. -/
def aval (t : Nat → AV) : Operand → AV
  | .tmp j => t j
  | .const v => AV.ofV v
  | .global g => .val (.pointer (some ⟨g, 0, none⟩))
  | .func f => .val (.func (.func f) #[] #[])

section
variable {P : Program} {TT : Nat → Option TI} {w0 w : World} {F0 F : Nat → Prop} {ρ : Nat → Option BI} {fr : Nat → Prop} {s : St} {a : Act} {b : Nat}

theorem Rel.aval (hR : Rel w0 F0 F ρ fr s a w) (x : Operand) : VR w F ρ (a.eval x) (AL.aval s.t x) := by
  cases x with
  | tmp j => exact hR.vals j
  | const v => exact .ofV w F ρ v
  | global g => exact .val _
  | func f => exact .val _

/-- What an operation must come to. -/
def Post (P : Program) (o : Oper) (a : Act) (w : World) (w0 : World) (F0 : Nat → Prop) (fr : Nat → Prop) (b : Nat) (s' : St) (x : AV) : Prop :=
  ∃ nx w' v, (execOp a.eval o).run P w = .ok nx w' ∧ (nx = .value v ∨ (nx = .skip ∧ v = undef)) ∧
    ∃ F' ρ', Rel w0 F0 F' ρ' (fun j => fr j ∧ ¬ (b ≤ j ∧ j < b + 8)) s' a w' ∧ VR w' F' ρ' v x

theorem Post.val {o : Oper} {v : Value} {x : AV} (hR : Rel w0 F0 F ρ fr s a w) (hr : (execOp a.eval o).run P w = .ok (.value v) w) (hv : VR w F ρ v x) : Post P o a w w0 F0 fr b s x :=
  ⟨_, w, v, hr, .inl rfl, F, ρ, hR.mono_fr (fun _ h => h.1), hv⟩

theorem Post.alloc {o : Oper} {v : Value} {x : AV} (hR : Rel w0 F0 F ρ fr s a w) (hfr : ∀ k, k < 8 → fr (b + k)) (cs : Array Value) (ty : TypeId) (sz : Nat) (rows : List (List AV)) (hw : ∀ r ∈ rows, r.length = sz) (hl : rows.length * sz ≤ cs.size)
    (hc : ∀ (j : Nat) (x : AV), rows.flatten[j]? = some x → (cs.getD j undef).oneCell' = true ∧ VR w F ρ (cs.getD j undef) x)
    (hr : (execOp a.eval o).run P w = .ok (.value v) (w.alloc (.cells cs ty)))
    (hv : VR (w.alloc (.cells cs ty)) F (putρ ρ b ⟨w.heap.size, 0, sz, cs.size⟩) v x) : Post P o a w w0 F0 fr b { s with h := updH s.h b (some (.cells sz rows)) } x :=
  ⟨_, _, v, hr, .inl rfl, F, _, (hR.alloc b (hfr 0 (by omega)) cs ty sz rows hw hl hc).mono_fr (fun j hj => ⟨hj.1, fun e => hj.2 ⟨by omega, by omega⟩⟩), hv⟩

theorem zero_cells {t : Nat} {i : TI} (h : TIok P t i) (j : Nat) (x : AV) (hx : (i.zero.map AV.ofV)[j]? = some x) : (i.zero.toArray.getD j undef).oneCell' = true ∧ VR w F ρ (i.zero.toArray.getD j undef) x := by
  obtain ⟨d, inf, z, hu, hd, hi, h1, h2, h3, h4, h5, h6⟩ := h
  rw [List.getElem?_map] at hx
  cases hz : i.zero[j]? with
  | none => simp [hz] at hx
  | some v =>
    simp [hz] at hx
    subst hx
    have hm := List.mem_of_getElem? hz
    have e : i.zero.toArray.getD j undef = v := by
      have hj := (List.getElem?_eq_some_iff.1 hz).1
      simp [hj]
      exact (List.getElem?_eq_some_iff.1 hz).2
    rw [e]
    exact ⟨List.all_eq_true.1 h6 v hm, .ofV w F ρ v⟩

theorem run_zero {t : Nat} {i : TI} (h : TIok P t i) (w : World) : ∃ z, (zeroValue t).run P w = .ok z w ∧ z.cells = i.zero.toArray := by
  obtain ⟨d, inf, z, hu, hd, hi, h1, h2, h3, h4, h5, h6⟩ := h
  exact ⟨z, by simp [zeroValue, typeInfo, hi, h3], by rw [← h4]⟩

theorem op_alloc {o : Oper} {e : Nat} {i : TI} (hT : TTok P TT) (hR : Rel w0 F0 F ρ fr s a w) (hfr : ∀ k, k < 8 → fr (b + k)) (ho : o.op = .alloc e) (hi : TT e = some i) :
    Post P o a w w0 F0 fr b { s with h := updH s.h b (some (.cells i.size [i.zero.map AV.ofV])) } (.lp b 0) := by
  have ht := hT e i hi
  obtain ⟨z, hz, hzc⟩ := run_zero ht w
  have hlen : i.zero.length = i.size := by obtain ⟨d, inf, z, hu, hd, hi, h1, h2, h3, h4, h5, h6⟩ := ht; exact h5
  refine Post.alloc hR hfr i.zero.toArray e i.size [i.zero.map AV.ofV] (by simp [hlen]) (by simp [hlen]) (fun j x hx => zero_cells ht j x (by simpa using hx)) (v := .pointer (some ⟨w.heap.size, 0, none⟩)) ?_ ?_
  · simp [execOp, ho, Instr.alloc, hz, newVar, newRow, hzc]
  · exact .lp b 0 ⟨w.heap.size, 0, i.size, i.zero.toArray.size⟩ (by simp [putρ])

theorem op_box {o : Oper} {e : Nat} {x : Operand} {cs : List AV} (hR : Rel w0 F0 F ρ fr s a w) (hfr : ∀ k, k < 8 → fr (b + k)) (ho : o.op = .box e x) (hc : (aval s.t x).cells? = some cs) :
    Post P o a w w0 F0 fr b { s with h := updH s.h b (some (.cells cs.length [cs])) } (.lp b 0) := by
  obtain ⟨h1, h2⟩ := (hR.aval x).cells hc
  refine Post.alloc hR hfr (a.eval x).cells e cs.length [cs] (by simp) (by simp [h1]) (fun j y hy => h2 j y (by simpa using hy)) (v := .pointer (some ⟨w.heap.size, 0, none⟩)) ?_ ?_
  · simp [execOp, ho, Instr.box, newVar, newRow]
  · exact .lp b 0 ⟨w.heap.size, 0, cs.length, (a.eval x).cells.size⟩ (by simp [putρ])

end
end Go.AL
