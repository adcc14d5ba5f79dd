/- An abstract program logic over tree values (part 6): structs and rows that are built, cuts, places, conversions. -/
import Derived.Test.YtjpefafkejklaaaAL5
set_option linter.unusedVariables false
set_option linter.unusedSimpArgs false
namespace Go.AL
open Go Go.RowKit

section
variable {P : Program} {TT : Nat → Option TI} {w0 w : World} {F0 F : Nat → Prop} {ρ : Nat → Option BI} {fr : Nat → Prop} {s : St} {a : Act} {b : Nat}

theorem op_build {o : Oper} {t : Nat} {parts : Array (Nat × Operand)} {i : TI} {fs : List (Nat × Nat)} {cs : List AV} (hT : TTok P TT) (hR : Rel w0 F0 F ρ fr s a w) (ho : o.op = .build t parts) (hi : TT t = some i) (hd : i.d = .struct fs)
    (hall : fs.all (fun p => (TT p.2).isSome) = true)
    (hg : fillA TT (fun k => match fs[k]? with | some (off, ft) => (TT ft).map fun q => (off, q.size) | none => none) (i.zero.map AV.ofV) (parts.toList.map fun p => (p.1, aval s.t p.2)) = some cs) :
    Post P o a w w0 F0 fr b s (.agg cs) := by
  have ht := hT t i hi
  obtain ⟨z, hz, hzc⟩ := run_zero ht w
  have hlen : i.zero.length = i.size := by obtain ⟨d, inf, z, hu, hd, hi, h1, h2, h3, h4, h5, h6⟩ := ht; exact h5
  have hzero : CR w F ρ i.zero.toArray (i.zero.map AV.ofV) := ⟨by simp, fun j x hx => zero_cells ht j x hx⟩
  obtain ⟨d, inf, z', hu, hsd, hinf, h1, h2, h3, h4, h5, h6⟩ := ht
  have hfields : ∃ fields, d = .struct fields ∧ fs = fields.toList.map fun f => (f.offset, f.type) := by
    rw [hd] at hsd
    cases d <;> simp [sdOf] at hsd
    rename_i fields
    exact ⟨fields, rfl, hsd.symm⟩
  obtain ⟨fields, rfl, hfs⟩ := hfields
  have hsz : ∀ f ∈ fields.toList, (do pure (f.offset, ← sizeOf f.type) : Sem (Nat × Nat)).run P w = .ok (f.offset, ((TT f.type).map (·.size)).getD 0) w := by
    intro f hf
    have hm : (f.offset, f.type) ∈ fs := by rw [hfs]; exact List.mem_map.2 ⟨f, hf, rfl⟩
    have := List.all_eq_true.1 hall _ hm
    obtain ⟨q, hq⟩ := Option.isSome_iff_exists.1 this
    simp [run_sizeOf (hT f.type q hq) w, show TT f.type = some q from hq]
  have hpl := run_mapM (P := P) (fun f : Field => (do pure (f.offset, ← sizeOf f.type) : Sem (Nat × Nat))) (fun f => (f.offset, ((TT f.type).map (·.size)).getD 0)) w fields hsz
  obtain ⟨cells', g1, g2⟩ := fill_ok (TT := TT) (pc := fun k => (fields.map fun f => (f.offset, ((TT f.type).map (·.size)).getD 0))[k]?) (by
    intro k q hq
    rw [hfs] at hq
    simp only [List.getElem?_map, Array.getElem?_toList] at hq
    simp only [Array.getElem?_map]
    cases hk : fields[k]? with
    | none => simp [hk] at hq
    | some f =>
      simp only [hk, Option.map_some] at hq ⊢
      cases hf : TT f.type with
      | none => simp [hf] at hq
      | some q' => simp [hf] at hq; simp [hq]) parts.toList _ _ cs hzero hR.aval hg
  refine Post.val hR (v := .agg cells') ?_ (.agg cells' cs g2.1 (fun j x hx => (g2.2 j x hx).1) (fun j x hx => (g2.2 j x hx).2))
  have hpt : (parts.map fun p => (p.1, a.eval p.2)).toList = parts.toList.map fun p => (p.1, a.eval p.2) := by simp
  simp only [execOp, ho, Instr.build, Sem.run_bind, hz, Result.andThen_ok, run_underlying hu, hpl, hzc, hpt, g1, Sem.run_pure]

theorem chunk_len (sz : Nat) : ∀ (n : Nat) (l : List AV), (chunk sz n l).length = n
  | 0, _ => rfl
  | n + 1, l => by simp [chunk, chunk_len sz n]
theorem chunk_width (sz : Nat) : ∀ (n : Nat) (l : List AV), n * sz ≤ l.length → ∀ r ∈ chunk sz n l, r.length = sz
  | 0, _, _, r, hr => by cases hr
  | n + 1, l, h, r, hr => by
    rw [Nat.add_mul, Nat.one_mul] at h
    rcases List.mem_cons.1 hr with e | e
    · subst e; simp; omega
    · exact chunk_width sz n _ (by simp; omega) r e
theorem chunk_flat (sz : Nat) : ∀ (n : Nat) (l : List AV), n * sz = l.length → (chunk sz n l).flatten = l
  | 0, l, h => by simp at h; have : l = [] := List.eq_nil_of_length_eq_zero h.symm; simp [chunk, this]
  | n + 1, l, h => by
    rw [Nat.add_mul, Nat.one_mul] at h
    rw [chunk, List.flatten_cons, chunk_flat sz n _ (by simp; omega), List.take_append_drop]

theorem fillA_len {pa : Nat → Option (Nat × Nat)} : ∀ (ps : List (Nat × AV)) (cs cs' : List AV), fillA TT pa cs ps = some cs' → cs'.length = cs.length
  | [], cs, cs', h => by simp [fillA] at h; rw [h]
  | (k, x) :: ps, cs, cs', h => by
    simp only [fillA] at h
    cases hk : pa k with
    | none => simp [hk] at h
    | some z =>
      obtain ⟨off, size⟩ := z
      cases hx : x.cells? with
      | none => simp [hk, hx] at h
      | some xs =>
        simp only [hk, hx] at h
        cases hb : (Nat.beq xs.length size && Nat.ble (off + size) cs.length) with
        | false => simp [hb] at h
        | true =>
          simp only [hb, cond_true] at h
          simp only [Bool.and_eq_true, Nat.beq_eq, Nat.ble_eq] at hb
          have hb1 : xs.length = size := by simpa using hb.1
          rw [fillA_len ps _ _ h, spl_len _ _ _ (by have := hb.2; omega)]

/-- A row of zeros. -/
theorem zeros_ok {e : Nat} {j : TI} (h : TIok P e j) (n m : Nat) (hm : n * j.size ≤ m) (k : Nat) (x : AV) (hx : (List.replicate n (j.zero.map AV.ofV)).flatten[k]? = some x) :
    (((Array.range m).map (fun q => j.zero.toArray[q % j.zero.toArray.size]!)).getD k undef).oneCell' = true ∧ VR w F ρ (((Array.range m).map (fun q => j.zero.toArray[q % j.zero.toArray.size]!)).getD k undef) x := by
  have hlen : j.zero.length = j.size := by obtain ⟨d, inf, z, hu, hd, hi, h1, h2, h3, h4, h5, h6⟩ := h; exact h5
  have hw : ∀ r ∈ List.replicate n (j.zero.map AV.ofV), r.length = j.size := fun r hr => by rw [List.eq_of_mem_replicate hr]; simp [hlen]
  have hk : k < n * j.size := by
    have := (List.getElem?_eq_some_iff.1 hx).1
    rwa [flat_len _ hw, List.length_replicate] at this
  have hs : 0 < j.size := Nat.pos_of_ne_zero fun e => by rw [e] at hk; simp at hk
  rw [flat_get hs _ hw] at hx
  have hkd : k / j.size < n := by rw [Nat.div_lt_iff_lt_mul hs]; exact hk
  rw [List.getElem?_replicate, if_pos hkd, Option.bind_some] at hx
  have := zero_cells (w := w) (F := F) (ρ := ρ) h (k % j.size) x hx
  have hmod : k % j.size < j.zero.length := by rw [hlen]; exact Nat.mod_lt _ hs
  have e : ((Array.range m).map (fun q => j.zero.toArray[q % j.zero.toArray.size]!)).getD k undef = j.zero.toArray.getD (k % j.size) undef := by
    have hkm : k < m := by omega
    simp [Array.getD_eq_getD_getElem?, hkm, hlen]
    rw [List.getElem?_eq_getElem hmod]
    simp [getElem!_pos, hmod, hlen]
  rw [e]
  exact this

theorem op_buildSlice {o : Oper} {t len e : Nat} {parts : Array (Nat × Operand)} {i j : TI} {cs : List AV} (hT : TTok P TT) (hR : Rel w0 F0 F ρ fr s a w) (hfr : ∀ k, k < 8 → fr (b + k)) (ho : o.op = .buildSlice t len parts) (hi : TT t = some i) (hd : i.d = .slice e) (hj : TT e = some j)
    (hle : len * j.size ≤ 16777216) (h0 : j.size ≠ 0)
    (hg : fillA TT (fun k => some (k * j.size, j.size)) (List.replicate len (j.zero.map AV.ofV)).flatten (parts.toList.map fun p => (p.1, aval s.t p.2)) = some cs) :
    Post P o a w w0 F0 fr b { s with h := updH s.h b (some (.cells j.size (chunk j.size len cs))) } (.own b 0 len) := by
  have ht := hT t i hi
  have hte := hT e j hj
  obtain ⟨z, hz, hzc⟩ := run_zero hte w
  have hsz := run_sizeOf hte w
  have hlen : j.zero.length = j.size := by obtain ⟨d, inf, z, hu, hd, hi, h1, h2, h3, h4, h5, h6⟩ := hte; exact h5
  obtain ⟨d, inf, z', hu, hsd, hinf, h1, h2, h3, h4, h5, h6⟩ := ht
  have hd' : d = .slice e := by rw [hd] at hsd; cases d <;> simp [sdOf] at hsd ⊢; exact hsd
  subst hd'
  have hfl : (List.replicate len (j.zero.map AV.ofV)).flatten.length = len * j.size := by
    rw [flat_len (sz := j.size) _ (fun r hr => by rw [List.eq_of_mem_replicate hr]; simp [hlen]), List.length_replicate]
  have hcr : CR w F ρ ((Array.range (len * j.size)).map (fun q => j.zero.toArray[q % j.zero.toArray.size]!)) (List.replicate len (j.zero.map AV.ofV)).flatten :=
    ⟨by simp [hfl], fun k x hx => zeros_ok hte len _ (Nat.le_refl _) k x hx⟩
  obtain ⟨cells', g1, g2⟩ := fill_ok (TT := TT) (pc := fun k => some (k * j.size, j.size)) (fun _ _ h => h) parts.toList _ _ cs hcr hR.aval hg
  have hcl := fillA_len _ _ _ hg
  rw [hfl] at hcl
  refine Post.alloc hR hfr cells' e j.size (chunk j.size len cs) (chunk_width _ _ _ (by omega)) (by rw [chunk_len, g2.1]; omega) (fun k x hx => ?_) (v := .slice (some ⟨w.heap.size, 0, none⟩) len len) ?_ ?_
  · rw [chunk_flat _ _ _ hcl.symm] at hx; exact g2.2 k x hx
  · have hpt : (parts.map fun p => (p.1, a.eval p.2)).toList = parts.toList.map fun p => (p.1, a.eval p.2) := by simp
    have hn : ¬ (len * j.size > 2 ^ 24) := by omega
    simp only [execOp, ho, Instr.buildSlice, Sem.run_bind, Result.andThen_ok, run_underlying hu, hsz, hn, if_false, hpt, Sem.run_pure]
    by_cases hl : len * j.size = 0
    · have hl0 : len = 0 := by
        rcases Nat.mul_eq_zero.1 hl with h | h
        · exact h
        · exact absurd h h0
      subst hl0
      have e0 : ∀ f : Nat → Value, (Array.range 0).map f = #[] := fun f => by simp
      simp only [Nat.zero_mul, e0] at g1 ⊢
      simp only [if_true, Sem.run_pure, Sem.run_bind, Result.andThen_ok, e0, g1]
      simp [newRow]
    · rw [if_neg hl]
      simp only [Sem.run_bind, hz, Result.andThen_ok, Sem.run_pure, hzc]
      rw [g1]
      simp [newRow]
  · refine .own _ b 0 len len ⟨w.heap.size, 0, j.size, cells'.size⟩ (by simp [putρ]) (Nat.le_refl _) (fun _ => ⟨by simp, ?_⟩)
    simp [g2.1, hcl]

theorem op_makeSlice {o : Oper} {t e : Nat} {l c : Operand} {i j : TI} {n m : Int} (hT : TTok P TT) (hR : Rel w0 F0 F ρ fr s a w) (hfr : ∀ k, k < 8 → fr (b + k)) (ho : o.op = .makeSlice t l c) (hi : TT t = some i) (hd : i.d = .slice e) (hj : TT e = some j)
    (hl : aval s.t l = .val (.int .i64 n)) (hc : aval s.t c = .val (.int .i64 m)) (h0 : 0 ≤ n) (h1 : n ≤ m) (h2 : m * j.bytes ≤ 140737488355328) (hb : 0 < j.bytes) :
    Post P o a w w0 F0 fr b { s with h := updH s.h b (some (.cells j.size (List.replicate n.toNat (j.zero.map AV.ofV)))) } (.own b 0 n.toNat) := by
  have ht := hT t i hi
  have hte := hT e j hj
  obtain ⟨z, hz, hzc⟩ := run_zero hte w
  have hsz := run_sizeOf hte w
  have hlen : j.zero.length = j.size := by obtain ⟨d, inf, z, hu, hd, hi, h1, h2, h3, h4, h5, h6⟩ := hte; exact h5
  obtain ⟨d, inf, z', hu, hsd, hinf, g1, g2, g3, g4, g5, g6⟩ := ht
  have hd' : d = .slice e := by rw [hd] at hsd; cases d <;> simp [sdOf] at hsd ⊢; exact hsd
  subst hd'
  have hel : a.eval l = .int .i64 n := by have := hR.aval l; rw [hl] at this; generalize hv : a.eval l = v at this; cases this; rfl
  have hec : a.eval c = .int .i64 m := by have := hR.aval c; rw [hc] at this; generalize hv : a.eval c = v at this; cases this; rfl
  have hm47 : m ≤ 140737488355328 := by
    have : m * 1 ≤ m * (j.bytes : Int) := Int.mul_le_mul_of_nonneg_left (by omega) (by omega)
    omega
  have wn : IntKind.i64.wrap n = n := IntWalk.i64_in _ (by omega)
  have wm : IntKind.i64.wrap m = m := IntWalk.i64_in _ (by omega)
  have hbytes : (typeInfo e).run P w = .ok ((P.info? e).getD default) w ∧ ((P.info? e).getD default).bytes = j.bytes := by
    obtain ⟨d, inf, z', hu, hsd, hinf, g1, g2, g3, g4, g5, g6⟩ := hte
    simp [typeInfo, hinf, g2]
  have tm : ((j.bytes : Int) * m > 2 ^ 48) = False := by
    rw [Int.mul_comm]; simp; omega
  have hmt : m.toNat * j.size = (m.toNat * j.size) := rfl
  refine Post.alloc hR hfr ((Array.range (m.toNat * j.size)).map (fun q => j.zero.toArray[q % j.zero.toArray.size]!)) e j.size _ (fun r hr => by rw [List.eq_of_mem_replicate hr]; simp [hlen]) (by simp; exact Nat.mul_le_mul_right _ (by omega))
    (fun k x hx => zeros_ok hte n.toNat _ (Nat.mul_le_mul_right _ (by omega)) k x hx) (v := .slice (some ⟨w.heap.size, 0, none⟩) n.toNat m.toNat) ?_ ?_
  · have hneg : ¬ (m < 0) := by omega
    have hneg2 : ¬ (n < 0) := by omega
    have hgt : ¬ (n > m) := by omega
    have hbm : (j.bytes : Int) * m ≤ 140737488355328 := by rw [Int.mul_comm]; exact h2
    simp only [execOp, ho, Instr.makeSlice, Sem.run_bind, Result.andThen_ok, run_underlying hu, hel, hec, asInt, asIntOf, Sem.run_pure, hbytes.1, hbytes.2, wn, wm]
    have hc1 : (decide (m < 0) || decide ((j.bytes : Int) * m > 2 ^ 48)) = false := by simp [hneg]; omega
    simp only [hc1, Bool.false_eq_true, false_or]
    rw [if_neg (by simp; omega)]
    simp only [Sem.run_bind, run_askRoom, Result.andThen_ok, hsz]
    by_cases hz0 : m.toNat * j.size = 0
    · have e0 : ∀ f : Nat → Value, (Array.range 0).map f = #[] := fun f => by simp
      rw [if_pos hz0]
      simp only [hz0, e0, Sem.run_pure, Result.andThen_ok, Sem.run_bind]
      simp [newRow]
    · rw [if_neg hz0]
      simp [hz, hzc, newRow]
  · refine .own _ b 0 n.toNat m.toNat ⟨w.heap.size, 0, j.size, ((Array.range (m.toNat * j.size)).map (fun q => j.zero.toArray[q % j.zero.toArray.size]!)).size⟩ (by simp [putρ]) (by omega) (fun _ => ⟨by simp, ?_⟩)
    simp

end
end Go.AL
