/- An abstract program logic over tree values (part 9): append and copy. -/
import Derived.Test.YtjpefafkejklaaaAL8
set_option linter.unusedVariables false
set_option linter.unusedSimpArgs false
namespace Go.AL
open Go Go.RowKit

section
variable {P : Program} {TT : Nat → Option TI} {w0 w : World} {F0 F : Nat → Prop} {ρ : Nat → Option BI} {fr : Nat → Prop} {s : St} {a : Act} {b : Nat}

theorem allP_cons {p : Prop} {l : List Prop} (h : allP (p :: l)) : p ∧ allP l := by
  cases l with
  | nil => exact ⟨h, trivial⟩
  | cons q l => exact h

/-- A live block goes on under another number, from another place on. -/
theorem Rel.rename (h : Rel w0 F0 F ρ fr s a w) (id id' : Nat) (hid' : fr id') (bi : BI) (sz off : Nat) (rows : List (List AV)) (hl : s.h id = some (.cells sz rows)) (hr : ρ id = some bi) (ho : off ≤ rows.length) :
    Rel w0 F0 F (putρ ρ id' ⟨bi.blk, bi.base + off * sz, sz, bi.csz⟩) (fun j => fr j ∧ j ≠ id') { s with h := updH (updH s.h id none) id' (some (.cells sz (rows.drop off))) } a w := by
  obtain ⟨bi0, q1, q2, q3, q4, q5, q6⟩ := h.block hl
  rw [hr] at q1; injection q1 with q1; subst q1
  have h' := h.forget id
  refine h'.name id' hid' ⟨bi.blk, bi.base + off * sz, sz, bi.csz⟩ (.cells sz (rows.drop off)) ⟨rfl, fun r hr => q3 r (List.mem_of_mem_drop hr), fun h0 => ?_, fun hp => ?_⟩ q4 (fun hp id2 bi2 hi2 hr2 hp2 => ?_)
  · have := q5 h0
    have hfl := flat_len rows q3
    rw [this] at hfl
    have : (rows.drop off).flatten.length = 0 := by
      rw [flat_len _ (fun r hr => q3 r (List.mem_of_mem_drop hr)), List.length_drop]
      have hfl' : rows.length * sz = 0 := by simpa using hfl.symm
      rcases Nat.mul_eq_zero.1 hfl' with h | h
      · simp [h]
      · simp [h]
    exact List.eq_nil_of_length_eq_zero this
  · obtain ⟨cs, ty, g1, g2, g3, g4⟩ := q6 hp
    refine ⟨cs, ty, g1, g2, ?_, fun j x hx => ?_⟩
    · simp only [List.length_drop]
      have : (off + (rows.length - off)) * sz = rows.length * sz := by congr 1; omega
      rw [Nat.add_mul] at this
      omega
    · have hsub : rows.drop off = (rows.take rows.length).drop off := by rw [List.take_length]
      rw [hsub] at hx
      have := g4 _ x (flat_sub q3 off rows.length j x hx)
      rwa [← Nat.add_assoc] at this
  · have hne : id2 ≠ id := fun e => by
      have hi2' : (updH s.h id none id2).isSome = true := hi2
      rw [e, updH_same] at hi2'
      cases hi2'
    have hi2' : (s.h id2).isSome = true := by
      have hh : (updH s.h id none id2).isSome = true := hi2
      rwa [updH_ne _ _ hne] at hh
    exact h.inj id2 id bi2 bi hi2' (by rw [hl]; rfl) hr2 hr hp2 hp hne

theorem op_append_own {o : Oper} {c : Call} {x y : Operand} {t u e : Nat} {i j k : TI} {id off len sz sz' : Nat} {rows ys : List (List AV)} {ps : List Prop} {acc : Accs} (hT : TTok P TT) (hR : Rel w0 F0 F ρ fr s a w) (hfr : ∀ k, k < 8 → fr (b + k))
    (ho : o.op = .call c) (hc : c.callee = .builtin .append) (hargs : c.args = #[x, y]) (htys : c.argTypes = #[t, u]) (hi : TT t = some i) (hd : i.d = .slice e) (hj : TT e = some j) (hk : TT u = some k) (hkd : (∃ q, k.d = .slice q) ∨ k.d = .str)
    (hsrc : rsrc s.h (aval s.t y) = some (sz', ys, ps, acc)) (hps : allP ps) (hs : j.size = sz' ∨ ys = []) (hx : aval s.t x = .own id off len) (hlb : s.h id = some (.cells sz rows)) (hsz : j.size = sz)
    (hle : off + len ≤ rows.length) (hb : (len + ys.length) * j.bytes ≤ 140737488355328) (hb0 : 0 < j.bytes) :
    Post P o a w w0 F0 fr b { s with h := updH (updH s.h id none) b (some (.cells j.size ((rows.drop off).take len ++ ys))) } (.own b 0 (len + ys.length)) := by
  subst hsz
  have hu := under_slice (hT t i hi) hd
  have hudu : (∃ e', P.underlying u = some (.slice e')) ∨ P.underlying u = some .string := by
    rcases hkd with ⟨q, h⟩ | h
    · exact .inl ⟨q, under_slice (hT u k hk) h⟩
    · exact .inr (under_str (hT u k hk) h)
  obtain ⟨hlen, hwy, news, hnl, hncr, hnf⟩ := src_ok (P := P) hR hsrc hps hs
  have hte := hT e j hj
  obtain ⟨d, inf, z, hud, hsd', hinf, h1, h2, h3, h4, h5, h6⟩ := hte
  obtain ⟨bi, q1, q2, q3, q4, q5, q6⟩ := hR.block hlb
  obtain ⟨bi', r1, r2, r3⟩ := hR.cell hlb
  rw [q1] at r1; injection r1 with r1; subst r1
  have hv := hR.aval x
  rw [hx] at hv
  generalize hve : a.eval x = ve at hv
  have hexec : ∀ v0, a.eval x = v0 → ∀ v w', (Builtin.append_ #[t, u] o.type #[v0, a.eval y]).run P w = .ok v w' → (execOp a.eval o).run P w = .ok (.value v) w' := by
    intro v0 hv0 v w' hr
    subst hv0
    simp only [execOp, ho, resolve, hc, hargs, htys, invoke, builtin, Sem.run_bind, Sem.run_pure, Result.andThen_ok, List.map_toArray, List.map_cons, List.map_nil, hr]
  have hold : ∀ r ∈ (rows.drop off).take len, r.length = j.size := fun r hr => q3 r (List.mem_of_mem_drop (List.mem_of_mem_take hr))
  have holdl : ((rows.drop off).take len).length = len := by simp; omega
  have hnall : (news.take (ys.length * j.size)) = news := List.take_of_length_le (by omega)
  have hneq := hnf ys.length (Nat.le_refl _)
  rw [hnall] at hneq
  cases hv with
  | own A _ _ _ cp bi' hr hl hA =>
    rw [q1] at hr; injection hr with hr; subst hr
    by_cases hroom : len + ys.length ≤ cp
    · by_cases hcp : cp = 0
      · -- nothing at all
        have hl0 : len = 0 := by omega
        have hy0 : ys.length = 0 := by omega
        have hye : ys = [] := List.eq_nil_of_length_eq_zero hy0
        subst hye
        have hnn : news = [] := List.eq_nil_of_length_eq_zero (by simpa using hnl)
        subst hnn hl0
        have hst : ∀ ad, A = some ad → (storeCells (ad.add (0 * inf.size)) ([] : List Value)).run P w = .ok () w := fun ad _ => by simp [storeCells]
        have hrun := run_append_room' (P := P) (ty := o.type) (w := w) hu hudu hinf A 0 cp 0 (a.eval y) [] (hlen w) (by rw [h1]; simpa using hneq w rfl) (by omega) w hst (fun _ => rfl)
        have h' := hR.forget id
        have h2' := h'.name b (hfr 0 (by omega)) ⟨0, 0, j.size, 0⟩ (.cells j.size []) ⟨rfl, fun r hr => (List.not_mem_nil hr).elim, fun _ => rfl, fun hp => by simp at hp⟩ (fun hp => by simp at hp) (fun hp => by simp at hp)
        refine ⟨.value (.slice A (0 + 0) cp), w, _, ?_, .inl rfl, F, _, by simpa using h2'.mono_fr (fr' := fun q => fr q ∧ ¬ (b ≤ q ∧ q < b + 8)) (fun q hq => ⟨hq.1, fun e => hq.2 ⟨by omega, by omega⟩⟩), ?_⟩
        · exact hexec _ hve _ _ hrun
        · exact .own _ b 0 (0 + 0) cp ⟨0, 0, j.size, 0⟩ (by simp [putρ]) (by omega) (fun hp => by omega)
      · -- in place
        obtain ⟨e1, e2⟩ := hA (by omega)
        have hjs : inf.size = j.size := h1
        by_cases hp : 0 < bi.csz
        · obtain ⟨cs, ty, g1, g2, g3, g4⟩ := q6 hp
          have hcap : bi.base + (off + len + ys.length) * j.size ≤ cs.size := by
            have : (off + len + ys.length) * bi.sz ≤ (off + cp) * bi.sz := Nat.mul_le_mul_right _ (by omega)
            rw [q2] at this e2
            omega
          have hone : ∀ v ∈ news, v.oneCell' = true := fun v hvm => by
            obtain ⟨q, hq⟩ := List.mem_iff_getElem?.1 hvm
            have hql := (List.getElem?_eq_some_iff.1 hq).1
            have hcl : news.length = ys.flatten.length := hncr.1
            obtain ⟨xx, hxx⟩ : ∃ xx, ys.flatten[q]? = some xx := ⟨ys.flatten[q]'(by omega), List.getElem?_eq_getElem (by omega)⟩
            have := (hncr.2 q xx hxx).1
            simpa [hql, (List.getElem?_eq_some_iff.1 hq).2] using this
          have hst := run_storeCells_at P bi.blk (bi.base + (off + len) * j.size) ty news 0 cs w g1 (by rw [hnl]; simp only [Nat.add_mul] at hcap ⊢; omega) hone
          simp only [Nat.add_zero] at hst
          have hst' : ∀ ad, A = some ad → (storeCells (ad.add (len * inf.size)) news).run P w = .ok () (w.setRow bi.blk (cs.toList.take (bi.base + (off + len) * j.size) ++ news ++ cs.toList.drop (bi.base + (off + len) * j.size + news.length)).toArray) := fun ad had => by
            rw [e1] at had
            injection had with had
            subst had
            rw [addr_add, hjs, q2]
            have : bi.base + off * j.size + len * j.size = bi.base + (off + len) * j.size := by rw [Nat.add_mul]; omega
            rw [this]
            exact hst
          have hrun := run_append_room' (P := P) (ty := o.type) (w := w) hu hudu hinf A len cp ys.length (a.eval y) news (hlen w) (by rw [hjs]; exact hneq w rfl) hroom _ hst' (fun hn => by rw [e1] at hn; cases hn)
          have hfit : bi.base + (off + len) * j.size + news.toArray.size ≤ cs.size := by simp only [List.size_toArray, hnl]; simp only [Nat.add_mul] at hcap ⊢; omega
          have hwr := hR.write id bi j.size rows (rows.take (off + len) ++ ys) hlb q1 hp (cs.toList.take (bi.base + (off + len) * j.size) ++ news.toArray.toList ++ cs.toList.drop (bi.base + (off + len) * j.size + news.toArray.size)).toArray ty cs g1
            (by simp at hfit ⊢; omega) (fun r hr => by
              rcases List.mem_append.1 hr with h | h
              · exact q3 r (List.mem_of_mem_take h)
              · exact hwy r h) (by
              simp only [List.length_append, List.length_take, Nat.min_eq_left hle]
              simp at hfit ⊢
              simp only [Nat.add_mul] at hcap ⊢
              omega) (fun q xx hxx => by
              rw [splice_getD _ _ _ _ hfit]
              rw [List.flatten_append, List.getElem?_append] at hxx
              have htl : (rows.take (off + len)).flatten.length = (off + len) * j.size := by
                rw [flat_len _ (fun r hr => q3 r (List.mem_of_mem_take hr)), List.length_take, Nat.min_eq_left hle]
              rw [htl] at hxx
              by_cases hq : q < (off + len) * j.size
              · rw [if_pos hq] at hxx
                rw [if_pos (by omega)]
                have hx2 := flat_sub q3 0 (off + len) q xx (by simpa using hxx)
                simp only [Nat.zero_mul, Nat.zero_add] at hx2
                exact g4 q xx hx2
              · rw [if_neg hq] at hxx
                have hql := (List.getElem?_eq_some_iff.1 hxx).1
                have hcl : news.length = ys.flatten.length := hncr.1
                rw [if_neg (by omega), if_pos (by show _ < _ + news.length; omega)]
                have e : bi.base + q - (bi.base + (off + len) * j.size) = q - (off + len) * j.size := by omega
                rw [e]
                exact hncr.2 _ xx hxx)
          have hren := hwr.rename id b (hfr 0 (by omega)) bi j.size off (rows.take (off + len) ++ ys) (updH_same _ _ _) q1 (by simp; omega)
          have hrows : (rows.take (off + len) ++ ys).drop off = (rows.drop off).take len ++ ys := by
            rw [List.drop_append]
            have e0 : off - (rows.take (off + len)).length = 0 := by simp; omega
            rw [e0, List.drop_zero, List.drop_take]
            congr 2
            omega
          rw [hrows] at hren
          have hh : updH (updH (updH s.h id (some (LB.cells j.size (rows.take (off + len) ++ ys)))) id none) b (some (.cells j.size ((rows.drop off).take len ++ ys))) = updH (updH s.h id none) b (some (.cells j.size ((rows.drop off).take len ++ ys))) := by
            funext q
            unfold updH
            cases Nat.beq q b <;> cases Nat.beq q id <;> rfl
          have hrel := hren.mono_fr (fr' := fun q => fr q ∧ ¬ (b ≤ q ∧ q < b + 8)) (fun q hq => ⟨hq.1, fun e => hq.2 ⟨by omega, by omega⟩⟩)
          simp only [hh] at hrel
          refine ⟨_, _, _, hexec _ hve _ _ hrun, .inl rfl, F, _, hrel, ?_⟩
          · refine .own A b 0 (len + ys.length) cp ⟨bi.blk, bi.base + off * j.size, j.size, bi.csz⟩ (by simp [putρ]) hroom (fun _ => ⟨by rw [e1, q2]; simp, ?_⟩)
            rw [q2] at e2
            simp only [Nat.zero_add]
            rw [Nat.add_mul] at e2
            omega
        · -- a block without cells: elements without cells
          have hp0 : bi.csz = 0 := by omega
          have hjz : j.size = 0 := by
            rw [q2, hp0] at e2
            have : (off + cp) * j.size = 0 := by omega
            rcases Nat.mul_eq_zero.1 this with h | h
            · omega
            · exact h
          have hnn : news = [] := List.eq_nil_of_length_eq_zero (by rw [hnl, hjz]; simp)
          subst hnn
          have hst : ∀ ad, A = some ad → (storeCells (ad.add (len * inf.size)) ([] : List Value)).run P w = .ok () w := fun ad _ => by simp [storeCells]
          have hrun := run_append_room' (P := P) (ty := o.type) (w := w) hu hudu hinf A len cp ys.length (a.eval y) [] (hlen w) (by rw [hjs]; exact hneq w rfl) hroom w hst (fun hn => nomatch (e1.symm.trans hn))
          have h' := hR.forget id
          have hfz : ((rows.drop off).take len ++ ys).flatten = [] := by
            apply List.eq_nil_of_length_eq_zero
            rw [flat_len (sz := j.size) _ (fun r hr => by
              rcases List.mem_append.1 hr with h | h
              · exact hold r h
              · exact hwy r h), hjz]
            simp
          have h2' := h'.name b (hfr 0 (by omega)) ⟨bi.blk, bi.base + off * j.size, j.size, 0⟩ (.cells j.size ((rows.drop off).take len ++ ys)) ⟨rfl, fun r hr => by
              rcases List.mem_append.1 hr with h | h
              · exact hold r h
              · exact hwy r h, fun _ => hfz, fun hp => by simp at hp⟩ (fun hp => by simp at hp) (fun hp => by simp at hp)
          refine ⟨.value (.slice A (len + ys.length) cp), w, _, ?_, .inl rfl, F, _, by simpa using h2'.mono_fr (fr' := fun q => fr q ∧ ¬ (b ≤ q ∧ q < b + 8)) (fun q hq => ⟨hq.1, fun e => hq.2 ⟨by omega, by omega⟩⟩), ?_⟩
          · exact hexec _ hve _ _ hrun
          · refine .own A b 0 (len + ys.length) cp ⟨bi.blk, bi.base + off * j.size, j.size, 0⟩ (by simp [putρ]) hroom (fun _ => ⟨by rw [e1, q2]; simp, ?_⟩)
            rw [q2, hp0] at e2
            simp [hjz] at e2 ⊢
            exact e2
    · -- grown
      have hjs : inf.size = j.size := h1
      have hjb : inf.bytes = j.bytes := h2
      have hbl : len + ys.length ≤ 140737488355328 := by
        have : (len + ys.length) * 1 ≤ (len + ys.length) * j.bytes := Nat.mul_le_mul_left _ hb0
        omega
      obtain ⟨olds, hol, hocr, hof⟩ : ∃ olds : List Value, olds.length = len * j.size ∧ CR w F ρ olds.toArray ((rows.drop off).take len).flatten ∧ (Builtin.firstCells j.size len (.slice A len cp)).run P w.drew = .ok olds.toArray w.drew := by
        by_cases hl0 : len = 0
        · subst hl0
          refine ⟨[], by simp, ⟨by simp, fun q xx hxx => by simp at hxx⟩, ?_⟩
          cases A with
          | none => simp [Builtin.firstCells]
          | some ad => simp [Builtin.firstCells, loadCells, loadCellsFrom]
        · obtain ⟨e1, e2⟩ := hA (by omega)
          obtain ⟨olds, g1, g2, g3⟩ := cells_src (P := P) (w := w) (F := F) (ρ := ρ) (bl := bi.blk) (o := bi.base + off * bi.sz) hold (fun q xx hxx => by
            have hsub : ((rows.drop off).take len) = (rows.take (off + len)).drop off := by rw [List.drop_take]; congr 1; omega
            rw [hsub] at hxx
            have := r3 _ xx (flat_sub q3 off (off + len) q xx hxx)
            rwa [← Nat.add_assoc, ← q2] at this)
          rw [holdl] at g1 g3
          refine ⟨olds, g1, g2, ?_⟩
          rw [e1]
          simp only [Builtin.firstCells]
          have := g3 len (Nat.le_refl _) w.drew rfl
          rwa [List.take_of_length_le (by omega)] at this
      have hrun := run_append_grow' (P := P) (ty := o.type) (w := w) hu hudu hinf h3 A len cp ys.length (a.eval y) olds news (hlen w) (by rw [hjs]; exact hof) (by rw [hjs]; exact hneq w.drew rfl) (by omega) (by rw [hjb]; exact hb) (by omega)
      have hge := grownCap_ge w (len + ys.length) cp e
      have h' := (hR.forget id).drew
      let cells := olds.toArray ++ news.toArray ++ Builtin.zeroCells z.cells (grownCap w (len + ys.length) cp e - (len + ys.length))
      have hzl : z.cells.size = j.size := by rw [← h5, ← h4]; simp
      have hcsz : cells.size = grownCap w (len + ys.length) cp e * j.size := by
        simp only [cells, Array.size_append, List.size_toArray, hol, hnl, size_zeroCells, hzl]
        rw [← Nat.add_mul, ← Nat.add_mul]
        congr 1
        omega
      have h2' := h'.alloc b (hfr 0 (by omega)) cells e j.size ((rows.drop off).take len ++ ys) (fun r hr => by
          rcases List.mem_append.1 hr with h | h
          · exact hold r h
          · exact hwy r h) (by
          rw [hcsz]
          apply Nat.mul_le_mul_right
          simp only [List.length_append, holdl]
          exact hge) (fun q xx hxx => by
          rw [List.flatten_append] at hxx
          have := CR_append hocr hncr (Builtin.zeroCells z.cells (grownCap w (len + ys.length) cp e - (len + ys.length))) q xx hxx
          exact ⟨this.1, VR.mono (w := w) (w' := w.drew) (fun _ h => h) (fun _ _ => rfl) (fun _ _ h => h) this.2⟩)
      refine ⟨.value (.slice (some ⟨w.heap.size, 0, none⟩) (len + ys.length) (grownCap w (len + ys.length) cp e)), _, _, ?_, .inl rfl, F, _, h2'.mono_fr (fun q hq => ⟨hq.1, fun e => hq.2 ⟨by omega, by omega⟩⟩), ?_⟩
      · exact hexec _ hve _ _ hrun
      · refine .own _ b 0 _ _ ⟨w.heap.size, 0, j.size, cells.size⟩ (by simp [putρ]) hge (fun _ => ⟨by simp, ?_⟩)
        simp only [Nat.zero_add, hcsz]
        omega

theorem op_append_tight {o : Oper} {c : Call} {x y : Operand} {t u e : Nat} {i j k : TI} {sz sz' : Nat} {rows ys : List (List AV)} {ps : List Prop} {acc : Accs} (hT : TTok P TT) (hR : Rel w0 F0 F ρ fr s a w) (hfr : ∀ k, k < 8 → fr (b + k))
    (ho : o.op = .call c) (hc : c.callee = .builtin .append) (hargs : c.args = #[x, y]) (htys : c.argTypes = #[t, u]) (hi : TT t = some i) (hd : i.d = .slice e) (hj : TT e = some j) (hk : TT u = some k) (hkd : (∃ q, k.d = .slice q) ∨ k.d = .str)
    (hsrc : rsrc s.h (aval s.t y) = some (sz', ys, ps, acc)) (hps : allP ps) (hs : j.size = sz' ∨ ys = []) (hx : aval s.t x = .sl sz rows true) (hsz : j.size = sz ∨ rows = [])
    (hne : rows = [] ∨ ys ≠ []) (hb : (rows.length + ys.length) * j.bytes ≤ 140737488355328) (hb0 : 0 < j.bytes) :
    Post P o a w w0 F0 fr b { s with h := updH s.h b (some (.cells j.size (rows ++ ys))) } (.own b 0 (rows.length + ys.length)) := by
  have hu := under_slice (hT t i hi) hd
  have hudu : (∃ e', P.underlying u = some (.slice e')) ∨ P.underlying u = some .string := by
    rcases hkd with ⟨q, h⟩ | h
    · exact .inl ⟨q, under_slice (hT u k hk) h⟩
    · exact .inr (under_str (hT u k hk) h)
  obtain ⟨hlen, hwy, news, hnl, hncr, hnf⟩ := src_ok (P := P) hR hsrc hps hs
  have hte := hT e j hj
  obtain ⟨d, inf, z, hud, hsd', hinf, h1, h2, h3, h4, h5, h6⟩ := hte
  have hv := hR.aval x
  rw [hx] at hv
  generalize hve : a.eval x = ve at hv
  have hexec : ∀ v0, a.eval x = v0 → ∀ v w', (Builtin.append_ #[t, u] o.type #[v0, a.eval y]).run P w = .ok v w' → (execOp a.eval o).run P w = .ok (.value v) w' := by
    intro v0 hv0 v w' hr
    subst hv0
    simp only [execOp, ho, resolve, hc, hargs, htys, invoke, builtin, Sem.run_bind, Sem.run_pure, Result.andThen_ok, List.map_toArray, List.map_cons, List.map_nil, hr]
  have hnall : (news.take (ys.length * j.size)) = news := List.take_of_length_le (by omega)
  have hneq := hnf ys.length (Nat.le_refl _)
  rw [hnall] at hneq
  have hjs : inf.size = j.size := h1
  have hjb : inf.bytes = j.bytes := h2
  cases hv with
  | sl A n cp _ _ _ bl of vals hn hcp htt hw hA g0 g1 g2 g3 =>
    subst hn
    have hcap := htt rfl
    subst hcap
    have hold : ∀ r ∈ rows, r.length = j.size := fun r hr => by
      rcases hsz with h | h
      · rw [h]; exact hw r hr
      · rw [h] at hr; cases hr
    by_cases hy0 : ys.length = 0
    · have hye : ys = [] := List.eq_nil_of_length_eq_zero hy0
      have hre : rows = [] := by rcases hne with h | h
                                 · exact h
                                 · exact absurd hye h
      subst hye hre
      have hnn : news = [] := List.eq_nil_of_length_eq_zero (by simpa using hnl)
      subst hnn
      have hst : ∀ ad, A = some ad → (storeCells (ad.add (0 * inf.size)) ([] : List Value)).run P w = .ok () w := fun ad _ => by simp [storeCells]
      have hrun := run_append_room' (P := P) (ty := o.type) (w := w) hu hudu hinf A 0 0 0 (a.eval y) [] (hlen w) (by rw [h1]; simpa using hneq w rfl) (by omega) w hst (fun _ => rfl)
      have h2' := hR.name b (hfr 0 (by omega)) ⟨0, 0, j.size, 0⟩ (.cells j.size []) ⟨rfl, fun r hr => (List.not_mem_nil hr).elim, fun _ => rfl, fun hp => by simp at hp⟩ (fun hp => by simp at hp) (fun hp => by simp at hp)
      refine ⟨.value (.slice A (0 + 0) 0), w, _, ?_, .inl rfl, F, _, by simpa using h2'.mono_fr (fr' := fun q => fr q ∧ ¬ (b ≤ q ∧ q < b + 8)) (fun q hq => ⟨hq.1, fun e => hq.2 ⟨by omega, by omega⟩⟩), ?_⟩
      · exact hexec _ hve _ _ hrun
      · exact .own _ b 0 (0 + 0) 0 ⟨0, 0, j.size, 0⟩ (by simp [putρ]) (by omega) (fun hp => by omega)
    · have hbl : rows.length + ys.length ≤ 140737488355328 := by
        have : (rows.length + ys.length) * 1 ≤ (rows.length + ys.length) * j.bytes := Nat.mul_le_mul_left _ hb0
        omega
      obtain ⟨olds, hol, hocr, hof⟩ : ∃ olds : List Value, olds.length = rows.length * j.size ∧ CR w F ρ olds.toArray rows.flatten ∧ (Builtin.firstCells j.size rows.length (.slice A rows.length rows.length)).run P w.drew = .ok olds.toArray w.drew := by
        by_cases hl0 : rows = []
        · subst hl0
          refine ⟨[], by simp, ⟨by simp, fun q xx hxx => by simp at hxx⟩, ?_⟩
          cases A with
          | none => simp [Builtin.firstCells]
          | some ad => simp [Builtin.firstCells, loadCells, loadCellsFrom]
        · obtain ⟨e1, e2⟩ := hA hl0
          obtain ⟨olds, q1, q2, q3⟩ := cells_src (P := P) (w := w) (F := F) (ρ := ρ) (bl := bl) (o := of) hold (fun q xx hxx => ⟨vals q, g0 q xx hxx, g1 q xx hxx, g2 q xx hxx⟩)
          refine ⟨olds, q1, q2, ?_⟩
          rw [e1]
          simp only [Builtin.firstCells]
          have := q3 rows.length (Nat.le_refl _) w.drew rfl
          rwa [List.take_of_length_le (by omega)] at this
      have hrun := run_append_grow' (P := P) (ty := o.type) (w := w) hu hudu hinf h3 A rows.length rows.length ys.length (a.eval y) olds news (hlen w) (by rw [hjs]; exact hof) (by rw [hjs]; exact hneq w.drew rfl) (by omega) (by rw [hjb]; exact hb) (by omega)
      have hge := grownCap_ge w (rows.length + ys.length) rows.length e
      have h' := hR.drew
      let cells := olds.toArray ++ news.toArray ++ Builtin.zeroCells z.cells (grownCap w (rows.length + ys.length) rows.length e - (rows.length + ys.length))
      have hzl : z.cells.size = j.size := by rw [← h5, ← h4]; simp
      have hcsz : cells.size = grownCap w (rows.length + ys.length) rows.length e * j.size := by
        simp only [cells, Array.size_append, List.size_toArray, hol, hnl, size_zeroCells, hzl]
        rw [← Nat.add_mul, ← Nat.add_mul]
        congr 1
        omega
      have h2' := h'.alloc b (hfr 0 (by omega)) cells e j.size (rows ++ ys) (fun r hr => by
          rcases List.mem_append.1 hr with h | h
          · exact hold r h
          · exact hwy r h) (by
          rw [hcsz]
          apply Nat.mul_le_mul_right
          simp only [List.length_append]
          exact hge) (fun q xx hxx => by
          rw [List.flatten_append] at hxx
          have := CR_append hocr hncr (Builtin.zeroCells z.cells (grownCap w (rows.length + ys.length) rows.length e - (rows.length + ys.length))) q xx hxx
          exact ⟨this.1, VR.mono (w := w) (w' := w.drew) (fun _ h => h) (fun _ _ => rfl) (fun _ _ h => h) this.2⟩)
      refine ⟨.value (.slice (some ⟨w.heap.size, 0, none⟩) (rows.length + ys.length) (grownCap w (rows.length + ys.length) rows.length e)), _, _, ?_, .inl rfl, F, _, h2'.mono_fr (fun q hq => ⟨hq.1, fun e => hq.2 ⟨by omega, by omega⟩⟩), ?_⟩
      · exact hexec _ hve _ _ hrun
      · refine .own _ b 0 _ _ ⟨w.heap.size, 0, j.size, cells.size⟩ (by simp [putρ]) hge (fun _ => ⟨by simp, ?_⟩)
        simp only [Nat.zero_add, hcsz]
        omega

end
end Go.AL
