/- An abstract program logic over tree values (part 4): loads, stores, cuts, conversions, appends. -/
import Derived.Test.YtjpefafkejklaaaAL3
set_option linter.unusedVariables false
set_option linter.unusedSimpArgs false
namespace Go.AL
open Go Go.RowKit

section
variable {P : Program} {TT : Nat → Option TI} {w0 w : World} {F0 F : Nat → Prop} {ρ : Nat → Option BI} {fr : Nat → Prop} {s : St} {a : Act} {b : Nat}

theorem Rel.block (hR : Rel w0 F0 F ρ fr s a w) {id sz : Nat} {rows : List (List AV)} (hl : s.h id = some (.cells sz rows)) :
    ∃ bi, ρ id = some bi ∧ bi.sz = sz ∧ (∀ r ∈ rows, r.length = sz) ∧ (0 < bi.csz → ¬ F bi.blk ∧ w0.heap.size ≤ bi.blk) ∧ (bi.csz = 0 → rows.flatten = []) ∧
      (0 < bi.csz → ∃ cs ty, w.heap[bi.blk]? = some (.cells cs ty (0, 0)) ∧ cs.size = bi.csz ∧ bi.base + rows.length * sz ≤ cs.size ∧
        ∀ (j : Nat) (x : AV), rows.flatten[j]? = some x → (cs.getD (bi.base + j) undef).oneCell' = true ∧ VR w F ρ (cs.getD (bi.base + j) undef) x) := by
  obtain ⟨bi, h1, ⟨h2, h3, h4, h5⟩, h6⟩ := hR.blks id _ hl
  exact ⟨bi, h1, h2, h3, h6, h4, h5⟩

/-- A live block's cell is read. -/
theorem Rel.cell (hR : Rel w0 F0 F ρ fr s a w) {id sz : Nat} {rows : List (List AV)} (hl : s.h id = some (.cells sz rows)) :
    ∃ bi, ρ id = some bi ∧ bi.sz = sz ∧ ∀ (j : Nat) (x : AV), rows.flatten[j]? = some x → ∃ v, w.cell? ⟨bi.blk, bi.base + j, none⟩ = some v ∧ v.oneCell' = true ∧ VR w F ρ v x := by
  obtain ⟨bi, h1, h2, h3, h4, h5, h6⟩ := hR.block hl
  refine ⟨bi, h1, h2, fun j x hx => ?_⟩
  have hp : 0 < bi.csz := Nat.pos_of_ne_zero fun h0 => by rw [h5 h0] at hx; simp at hx
  obtain ⟨cs, ty, g1, g2, g3, g4⟩ := h6 hp
  have hj : j < rows.flatten.length := (List.getElem?_eq_some_iff.1 hx).1
  rw [flat_len rows h3] at hj
  have hlt : bi.base + j < cs.size := by omega
  refine ⟨cs.getD (bi.base + j) undef, ?_, (g4 j x hx).1, (g4 j x hx).2⟩
  rw [cell_of_row w bi.blk (bi.base + j) cs ty (0, 0) g1]
  simp [hlt]

/-- A variable is read as a whole. -/
theorem load_part {t : Nat} {i : TI} (h : TIok P t i) (hk : okd i = true) (bl o c : Nat) (row : List AV) (hle : c + i.size ≤ row.length)
    (hc : ∀ (j : Nat) (x : AV), row[j]? = some x → ∃ v, w.cell? ⟨bl, o + j, none⟩ = some v ∧ v.oneCell' = true ∧ VR w F ρ v x) :
    ∃ v, (loadVar t ⟨bl, o + c, none⟩).run P w = .ok v w ∧ VR w F ρ v (part i row c) := by
  have hcell : ∀ j, j < i.size → ∃ x, row[c + j]? = some x := fun j hj => ⟨row[c + j]'(by omega), List.getElem?_eq_getElem (by omega)⟩
  let vals : Nat → Value := fun j => (w.cell? ⟨bl, o + c + j, none⟩).getD undef
  have hv : ∀ j, j < i.size → ∀ x, row[c + j]? = some x → w.cell? ⟨bl, o + c + j, none⟩ = some (vals j) ∧ (vals j).oneCell' = true ∧ VR w F ρ (vals j) x := by
    intro j hj x hx
    obtain ⟨v, h1, h2, h3⟩ := hc (c + j) x hx
    rw [← Nat.add_assoc] at h1
    have e : vals j = v := by simp [vals, h1]
    rw [e]
    exact ⟨h1, h2, h3⟩
  have hrun := run_loadVar' h (by unfold okd at hk; cases hd : i.d <;> simp only [hd] at hk ⊢ <;> first | (cases hk; done) | exact Nat.eq_of_beq_eq_true hk) w bl (o + c) vals (fun j hj => by obtain ⟨x, hx⟩ := hcell j hj; exact (hv j hj x hx).1)
  refine ⟨_, hrun, ?_⟩
  unfold part
  unfold okd at hk
  cases hd : i.d <;> simp only [hd] at hk ⊢
  case struct fs =>
    refine .agg _ _ (by simp; omega) (fun j x hx => ?_) (fun j x hx => ?_)
    all_goals
      rw [List.getElem?_take] at hx
      split at hx
      · rename_i hj
        rw [List.getElem?_drop] at hx
        have e : (((List.range i.size).map vals).toArray.getD j undef) = vals j := by simp [hj]
        rw [e]
        first | exact (hv j hj x hx).2.1 | exact (hv j hj x hx).2.2
      · cases hx
  case other => cases hk
  all_goals
    have h1 : i.size = 1 := by simpa using hk
    obtain ⟨x, hx⟩ := hcell 0 (by omega)
    simp only [hk, cond_true]
    have e : row.getD c .any = x := by simp [List.getD, show row[c]? = some x from hx]
    rw [e]
    exact (hv 0 (by omega) x hx).2.2

theorem op_load {o : Oper} {t : Nat} {x : Operand} {i : TI} {v : AV} {u : Ups} (hT : TTok P TT) (hR : Rel w0 F0 F ρ fr s a w) (ho : o.op = .load t x) (hi : TT t = some i) 
    (hg : ∃ row c, (v = part i row c ∧ u = []) ∧ okd i = true ∧ ((∃ id sz, aval s.t x = .lp id c ∧ s.h id = some (.cells sz [row]) ∧ c + i.size ≤ row.length) ∨
      (∃ id sz rows r, aval s.t x = .li id r c ∧ s.h id = some (.cells sz rows) ∧ c + i.size ≤ sz ∧ rows[r]? = some row) ∨ (aval s.t x = .fp row c ∧ c + i.size ≤ row.length))) :
    Post P o a w w0 F0 fr b { s with h := updsH s.h u } v := by
  obtain ⟨row, c, ⟨rfl, rfl⟩, hk, hg⟩ := hg
  have ht := hT t i hi
  have hx := hR.aval x
  have fin : ∀ bl o', a.eval x = .pointer (some ⟨bl, o' + c, none⟩) → c + i.size ≤ row.length → (∀ (j : Nat) (y : AV), row[j]? = some y → ∃ v, w.cell? ⟨bl, o' + j, none⟩ = some v ∧ v.oneCell' = true ∧ VR w F ρ v y) →
      Post P o a w w0 F0 fr b s (part i row c) := by
    intro bl o' he hle hc
    obtain ⟨v, h1, h2⟩ := load_part ht hk bl o' c row hle hc
    refine Post.val hR ?_ h2
    simp [execOp, ho, Instr.loadAt, he, Instr.sureAddr, h1]
  rcases hg with ⟨id, sz, h1, h2, h3⟩ | ⟨id, sz, rows, r, h1, h2, h3, h4⟩ | ⟨h1, h2⟩
  · obtain ⟨bi, q1, q2, q3⟩ := hR.cell h2
    rw [h1] at hx
    generalize hv : a.eval x = vx at hx
    cases hx with
    | lp _ _ bi' hr =>
      rw [q1] at hr; injection hr with hr; subst hr
      exact fin bi.blk bi.base hv h3 (fun j y hy => q3 j y (by simpa using hy))
  · obtain ⟨bi, q1, q2, q3⟩ := hR.cell h2
    obtain ⟨bi2, p1, p2, p3, _⟩ := hR.block h2
    rw [q1] at p1; injection p1 with p1; subst p1
    rw [h1] at hx
    generalize hv : a.eval x = vx at hx
    cases hx with
    | li _ _ _ bi' hr =>
      rw [q1] at hr; injection hr with hr; subst hr
      have hl : row.length = sz := p3 row (List.mem_of_getElem? h4)
      refine fin bi.blk (bi.base + r * bi.sz) hv (by omega) (fun j y hy => ?_)
      have := q3 (r * sz + j) y (flat_row p3 h4 hy)
      rwa [← Nat.add_assoc, ← q2] at this
  · rw [h1] at hx
    generalize hv : a.eval x = vx at hx
    cases hx with
    | fp _ _ bl o' vals hF g0 g1 g2 g3 => exact fin bl o' hv h2 (fun j y hy => ⟨vals j, g0 j y hy, g1 j y hy, g2 j y hy⟩)

theorem splice_getD (cur : Array Value) (xs : Array Value) (o k : Nat) (h : o + xs.size ≤ cur.size) :
    (cur.toList.take o ++ xs.toList ++ cur.toList.drop (o + xs.size)).toArray.getD k undef = if k < o then cur.getD k undef else if k < o + xs.size then xs.getD (k - o) undef else cur.getD k undef := by
  have hl : cur.toList.length = cur.size := by simp
  have hx : xs.toList.length = xs.size := by simp
  simp only [Array.getD_eq_getD_getElem?, List.getElem?_toArray]
  rw [← Array.getElem?_toList (xs := cur), ← Array.getElem?_toList (xs := xs)]
  rw [List.append_assoc, List.getElem?_append, List.getElem?_append, List.getElem?_take, List.getElem?_drop]
  simp only [List.length_take, hl, hx]
  have hm : min o cur.size = o := by omega
  rw [hm]
  by_cases h1 : k < o
  · simp [h1]
  · by_cases h2 : k < o + xs.size
    · have : k - o < xs.size := by omega
      simp [h1, h2, this]
    · have h3 : ¬ k - o < xs.size := by omega
      have h4 : o + xs.size + (k - o - xs.size) = k := by omega
      simp [h1, h2, h3, h4]

theorem spl_get (row : List AV) (c k : Nat) (xs : List AV) (h : c + xs.length ≤ row.length) :
    (spl row c xs)[k]? = if k < c then row[k]? else if k < c + xs.length then xs[k - c]? else row[k]? := by
  unfold spl
  rw [List.append_assoc, List.getElem?_append, List.getElem?_append, List.getElem?_take, List.getElem?_drop]
  simp only [List.length_take]
  have hm : min c row.length = c := by omega
  rw [hm]
  by_cases h1 : k < c
  · simp [h1]
  · by_cases h2 : k < c + xs.length
    · have : k - c < xs.length := by omega
      simp [h1, h2, this]
    · have h3 : ¬ k - c < xs.length := by omega
      have h4 : c + xs.length + (k - c - xs.length) = k := by omega
      simp [h1, h2, h3, h4]

theorem spl_len (row : List AV) (c : Nat) (xs : List AV) (h : c + xs.length ≤ row.length) : (spl row c xs).length = row.length := by
  unfold spl; simp; omega

/-- A store into a live block's row. -/
theorem Rel.storeAt (hR : Rel w0 F0 F ρ fr s a w) {id sz r c : Nat} {rows : List (List AV)} {row xs : List AV} {v : Value} {y : AV} {t : Nat} {i : TI} (ht : TIok P t i)
    (hl : s.h id = some (.cells sz rows)) (hr : rows[r]? = some row) (hle : c + xs.length ≤ sz) (hv : VR w F ρ v y) (hy : y.cells? = some xs) (hsz : xs.length = i.size) (h0 : 0 < i.size) :
    ∃ bi, ρ id = some bi ∧ bi.sz = sz ∧ ∃ w', (storeVar t ⟨bi.blk, bi.base + r * sz + c, none⟩ v).run P w = .ok () w' ∧
      Rel w0 F0 F ρ fr { s with h := updH s.h id (some (.cells sz (rows.set r (spl row c xs)))) } a w' := by
  obtain ⟨bi, q1, q2, q3, q4, q5, q6⟩ := hR.block hl
  have hrl : row.length = sz := q3 row (List.mem_of_getElem? hr)
  have hr' : r < rows.length := (List.getElem?_eq_some_iff.1 hr).1
  obtain ⟨hvs, hvc⟩ := hv.cells hy
  have hp : 0 < bi.csz := by
    apply Nat.pos_of_ne_zero
    intro e
    have hf := q5 e
    obtain ⟨z, hz⟩ : ∃ z, row[0]? = some z := ⟨row[0]'(by omega), List.getElem?_eq_getElem (by omega)⟩
    have := flat_row q3 hr hz
    rw [hf] at this
    simp at this
  obtain ⟨cs, ty, g1, g2, g3, g4⟩ := q6 hp
  have hrs : r * sz + sz ≤ rows.length * sz := by
    have : (r + 1) * sz ≤ rows.length * sz := Nat.mul_le_mul_right _ (by omega)
    rw [Nat.add_mul, Nat.one_mul] at this
    exact this
  have hfit : bi.base + r * sz + c + i.size ≤ cs.size := by omega
  have hst := run_storeVar' ht v (by omega) w bi.blk (bi.base + r * sz + c) cs ty g1 hfit (fun x hx => by
    obtain ⟨j, hj⟩ := List.mem_iff_getElem?.1 hx
    have hjl : j < v.cells.size := by have := (List.getElem?_eq_some_iff.1 hj).1; simpa using this
    obtain ⟨z, hz⟩ : ∃ z, xs[j]? = some z := ⟨xs[j]'(by omega), List.getElem?_eq_getElem (by omega)⟩
    have := (hvc j z hz).1
    have e : v.cells.getD j undef = x := by
      rw [Array.getElem?_toList] at hj
      simp [Array.getD_eq_getD_getElem?, hj]
    rwa [e] at this)
  refine ⟨bi, q1, q2, _, hst, ?_⟩
  have e2 : i.size = v.cells.size := by omega
  rw [e2] at hfit ⊢
  refine hR.write id bi sz rows _ hl q1 hp _ ty cs g1 (by simp; omega) (fun q hq => ?_) (by simp; omega) (fun j x hx => ?_)
  · rcases List.mem_or_eq_of_mem_set hq with h | h
    · exact q3 q h
    · rw [h, spl_len _ _ _ (by omega)]; exact hrl
  · rw [splice_getD _ _ _ _ hfit]
    have hszp : 0 < sz := by omega
    have hw' : ∀ q ∈ rows.set r (spl row c xs), q.length = sz := fun q hq => by
      rcases List.mem_or_eq_of_mem_set hq with h | h
      · exact q3 q h
      · rw [h, spl_len _ _ _ (by omega)]; exact hrl
    have hx' := hx
    rw [flat_get hszp _ hw'] at hx
    have hjd : j = (j / sz) * sz + j % sz := by rw [Nat.mul_comm]; exact (Nat.div_add_mod j sz).symm
    have hmod : j % sz < sz := Nat.mod_lt _ hszp
    by_cases hjr : j / sz = r
    · rw [hjr, List.getElem?_set_self hr'] at hx
      simp only [Option.bind_some] at hx
      rw [spl_get _ _ _ _ (by omega)] at hx
      rw [hjr] at hjd
      have old : row[j % sz]? = some x → (cs.getD (bi.base + j) undef).oneCell' = true ∧ VR w F ρ (cs.getD (bi.base + j) undef) x := by
        intro h
        have := flat_row q3 hr h
        rw [← hjd] at this
        exact g4 j x this
      by_cases h1 : j % sz < c
      · rw [if_pos h1] at hx
        rw [if_pos (by omega)]
        exact old hx
      · rw [if_neg h1] at hx
        rw [if_neg (by omega)]
        by_cases h2 : j % sz < c + xs.length
        · rw [if_pos h2] at hx
          rw [if_pos (by omega)]
          have e : bi.base + j - (bi.base + r * sz + c) = j % sz - c := by omega
          rw [e]
          exact hvc _ _ hx
        · rw [if_neg h2] at hx
          rw [if_neg (by omega)]
          exact old hx
    · rw [List.getElem?_set_ne (Ne.symm hjr)] at hx
      have hx2 : rows.flatten[j]? = some x := by rw [flat_get hszp _ q3]; exact hx
      have hout : j < r * sz ∨ r * sz + sz ≤ j := by
        rcases Nat.lt_or_gt_of_ne hjr with h | h
        · left
          have : (j / sz + 1) * sz ≤ r * sz := Nat.mul_le_mul_right _ (by omega)
          rw [Nat.add_mul, Nat.one_mul] at this
          omega
        · right
          have : (r + 1) * sz ≤ (j / sz) * sz := Nat.mul_le_mul_right _ (by omega)
          rw [Nat.add_mul, Nat.one_mul] at this
          omega
      rcases hout with h | h
      · rw [if_pos (by omega)]; exact g4 j x hx2
      · rw [if_neg (by omega), if_neg (by omega)]; exact g4 j x hx2

theorem op_store {o : Oper} {t : Nat} {x y : Operand} {i : TI} {xs : List AV} {u : Ups} (hT : TTok P TT) (hR : Rel w0 F0 F ρ fr s a w) (ho : o.op = .store t x y) (hi : TT t = some i)
    (hy : (aval s.t y).cells? = some xs) (hsz : xs.length = i.size) (h0 : 0 < i.size)
    (hg : ∃ id sz rows r row c, u = [(id, some (.cells sz (rows.set r (spl row c xs))))] ∧ s.h id = some (.cells sz rows) ∧ rows[r]? = some row ∧ c + i.size ≤ sz ∧
      (aval s.t x = .li id r c ∨ (aval s.t x = .lp id c ∧ r = 0))) :
    Post P o a w w0 F0 fr b { s with h := updsH s.h u } .any := by
  obtain ⟨id, sz, rows, r, row, c, rfl, hl, hr, hle, hg⟩ := hg
  have ht := hT t i hi
  obtain ⟨bi, q1, q2, w', q3, q4⟩ := hR.storeAt (r := r) (c := c) (xs := xs) ht hl hr (by omega) (hR.aval y) hy hsz h0
  have hx := hR.aval x
  have hadr : a.eval x = .pointer (some ⟨bi.blk, bi.base + r * sz + c, none⟩) := by
    rcases hg with h | ⟨h, hr0⟩
    · rw [h] at hx
      generalize a.eval x = vx at hx
      cases hx with | li _ _ _ bi' hr' => rw [q1] at hr'; injection hr' with hr'; subst hr'; rw [q2]
    · rw [h] at hx
      generalize a.eval x = vx at hx
      cases hx with | lp _ _ bi' hr' => rw [q1] at hr'; injection hr' with hr'; subst hr'; subst hr0; simp
  refine ⟨.skip, w', undef, ?_, .inr ⟨rfl, rfl⟩, F, ρ, q4.mono_fr (fun _ h => h.1), .any _⟩
  simp [execOp, ho, Instr.storeAt, hadr, Instr.sureAddr, q3]

end
end Go.AL
