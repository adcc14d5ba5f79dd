/- An abstract program logic over tree values (part 11): conversions; every operation that calls nothing; contracts; calls. -/
import Derived.Test.YtjpefafkejklaaaAL10
set_option linter.unusedVariables false
set_option linter.unusedSimpArgs false
namespace Go.AL
open Go Go.RowKit

section
variable {P : Program} {TT : Nat → Option TI} {w0 w : World} {F0 F : Nat → Prop} {ρ : Nat → Option BI} {fr : Nat → Prop} {s : St} {a : Act} {b : Nat}

/-- What is frozen grows by blocks that are new. -/
theorem Rel.growF (h : Rel w0 F0 F ρ fr s a w) (F' : Nat → Prop) (hF : ∀ b, F b → F' b) (hb : ∀ b, F' b → b < w.heap.size) (hn : ∀ b, F' b → F b ∨ w0.heap.size ≤ b) (hl : ∀ id bi, (s.h id).isSome = true → ρ id = some bi → 0 < bi.csz → ¬ F' bi.blk) :
    Rel w0 F0 F' ρ fr s a w := by
  refine { h with Fb := hb, F0F := fun b hb => hF b (h.F0F b hb), Fnew := fun b hb => ?_, vals := fun t => (h.vals t).mono hF (fun _ _ => rfl) (fun _ _ h => h), blks := fun id lb hlb => ?_ }
  · rcases hn b hb with h1 | h1
    · exact h.Fnew b h1
    · exact .inr h1
  · obtain ⟨bi, h1, h2, h3⟩ := h.blks id lb hlb
    exact ⟨bi, h1, h2.mono hF (fun _ _ => rfl) (fun _ _ h => h) (fun _ => rfl), fun hp => ⟨hl id bi (by rw [hlb]; rfl) h1 hp, (h3 hp).2⟩⟩

theorem foldl_push : ∀ (ns : List Int) (s : ByteArray), (ns.foldl (fun r n => r.push (UInt8.ofNat n.toNat)) s) = ⟨s.data ++ (ns.map fun n => UInt8.ofNat n.toNat).toArray⟩
  | [], s => by simp
  | n :: ns, s => by
    rw [List.foldl_cons, foldl_push ns]
    apply ByteArray.ext
    apply Array.ext'
    simp

theorem strL_fold (ns : List Int) : ns.foldl (fun r n => r.push (UInt8.ofNat n.toNat)) ByteArray.empty = strL ns := by
  rw [foldl_push]
  apply ByteArray.ext
  apply Array.ext'
  simp [strL]

theorem run_forIn_runes (f : Value → ByteArray → Sem (ForInStep ByteArray)) (hf : ∀ (n : Int) (r : ByteArray), (f (.int .i32 n) r).run P w = .ok (.yield (r ++ Utf8.encode n)) w) :
    ∀ (ns : List Int) (s : ByteArray), (forIn (ns.map (Value.int .i32)) s f).run P w = .ok (ns.foldl (fun r n => r ++ Utf8.encode n) s) w := by
  intro ns
  induction ns with
  | nil => intro s; simp [Sem.run_pure]
  | cons n ns ih =>
    intro s
    simp only [List.map_cons, List.forIn_cons, Sem.run_bind, hf, Result.andThen, List.foldl_cons]
    exact ih _

theorem run_runesToString (ad : Addr) (len cap : Nat) (ns : List Int) (h : (loadCells ad len).run P w = .ok (ns.map (Value.int .i32)).toArray w) :
    (Conv.runesToString (.slice (some ad) len cap)).run P w = .ok (.string (runesStr ns)) w := by
  unfold Conv.runesToString
  simp only [Sem.run_bind, h, Result.andThen, List.forIn_toArray]
  rw [run_forIn_runes _ (by intro n r; simp [Sem.run_pure])]
  simp [Sem.run_pure, runesStr]

theorem irows_flat (k : IntKind) (ns : List Int) : (irows k ns).flatten = ns.map fun n => AV.val (.int k n) := by
  unfold irows
  induction ns with
  | nil => rfl
  | cons x l ih => simp [ih]

theorem runesFrom_eq (sv : ByteArray) : ∀ (n i : Nat) (acc : Array Value), Conv.runesFrom sv n i acc = acc ++ ((runesL sv n i).map fun r => Value.int .i32 r).toArray
  | 0, i, acc => by simp [Conv.runesFrom, runesL]
  | n + 1, i, acc => by
    unfold Conv.runesFrom runesL
    by_cases h : i < sv.size
    · rw [if_pos h, if_pos h]
      simp only
      rw [runesFrom_eq sv n]
      apply Array.ext'
      simp
    · rw [if_neg h, if_neg h]; simp

theorem op_conv {o : Oper} {t d : Nat} {x : Operand} {p q : TI} {v : AV} {u : Ups} {acc : Accs} (hT : TTok P TT) (hR : Rel w0 F0 F ρ fr s a w) (hfr : ∀ k, k < 8 → fr (b + k)) (ho : o.op = .convert t d x) (hp : TT t = some p) (hq : TT d = some q)
    (hg : (rconv TT b s.h p q (aval s.t x)).gives v u acc) : Post P o a w w0 F0 fr b { s with h := updsH s.h u } v := by
  have hv := hR.aval x
  obtain ⟨dt, hut, hst⟩ := under_of (hT t p hp)
  have fin : ∀ {r : Value} {w' : World}, (convert t d (a.eval x)).run P w = .ok r w' → (execOp a.eval o).run P w = .ok (.value r) w' := fun {r w'} h => by simp [execOp, ho, h]
  unfold rconv at hg
  split at hg
  · rename_i k k' n hd hx
    have hu := under_int (hT d q hq) hd
    obtain ⟨rfl, rfl, rfl⟩ := hg
    have e : a.eval x = .int k' n := by rw [hx] at hv; exact hv.val_inv
    exact Post.val hR (fin (by rw [e]; simp [convert, run_underlying hut, run_underlying hu, Conv.intToInt])) (.val _)
  · rename_i k' n hd hx
    have hu := under_str (hT d q hq) hd
    obtain ⟨rfl, rfl, rfl⟩ := hg
    have e : a.eval x = .int k' n := by rw [hx] at hv; exact hv.val_inv
    exact Post.val hR (fin (by rw [e]; simp [convert, run_underlying hut, run_underlying hu, Conv.intToString])) (.val _)
  · rename_i sv hd hx
    have hu := under_str (hT d q hq) hd
    obtain ⟨rfl, rfl, rfl⟩ := hg
    have e : a.eval x = .string sv := by rw [hx] at hv; exact hv.val_inv
    exact Post.val hR (fin (by rw [e]; simp [convert, run_underlying hut, run_underlying hu])) (.val _)
  · rename_i e sv hd hx
    have hu := under_slice (hT d q hq) hd
    have he : a.eval x = .string sv := by rw [hx] at hv; exact hv.val_inv
    split at hg
    · rename_i j hsd hj
      split at hg
      · rename_i hjd
        have hue := under_int (hT e j hj) hjd
        obtain ⟨rfl, rfl, rfl⟩ := hg
        let cap := (Question.appendCap sv.size 0 e).cut (w.tape w.drawn (.appendCap sv.size 0 e))
        let cells : Array Value := (sv.data.map fun b => Value.int .u8 b.toNat) ++ Array.replicate (cap - sv.size) (.int .u8 0)
        have hcap : sv.size ≤ cap := by simp only [cap, Question.cut]; omega
        have hcs : cells.size = cap := by
          have : sv.data.size = sv.size := rfl
          simp [cells, this]; omega
        let w1 := w.drew.alloc (.cells cells e)
        have hsh : w1.shape? w.heap.size = some (e, cells.size) := by
          have : w1.heap[w.heap.size]? = some (.cells cells e) := heap_alloc_new w.drew _
          simp [World.shape?, this]
        let w2 := w1.freeze ⟨w.heap.size, cells.size, none⟩ 1
        have hrun : (convert t d (.string sv)).run P w = .ok (.slice (some ⟨w.heap.size, 0, none⟩) sv.size cap) w2 := by
          simp only [convert, Sem.run_bind, run_underlying hut, run_underlying hu, Result.andThen_ok]
          cases dt <;> simp [sdOf, hsd] at hst
          simp [run_underlying hue, Conv.stringToBytes, Question.forced, newRow, markStringish, w2, w1, cells, cap] at hsh ⊢
          simp [hsh]
        have h2s : w2.heap.size = w.heap.size + 1 := by simp [w2, w1, World.freeze]
        have hold : ∀ k, k < w.heap.size → w2.heap[k]? = w.heap[k]? := fun k hk => by
          have h1 : w1.heap[k]? = w.heap[k]? := Below.heap_alloc w.drew _ k hk
          simp only [w2, World.freeze]
          rw [if_neg (by omega)]
          simp only [Array.getElem?_modify]
          rw [if_neg (by omega)]
          exact h1
        have hnew : ∃ fz, w2.heap[w.heap.size]? = some (.cells cells e fz) := by
          have h1 : w1.heap[w.heap.size]? = some (.cells cells e) := heap_alloc_new w.drew _
          simp only [w2, World.freeze]
          rw [if_neg (by omega)]
          simp only [Array.getElem?_modify, if_true, h1, Option.map_some]
          exact ⟨_, rfl⟩
        obtain ⟨fz, hnew⟩ := hnew
        have hR2 := hR.world (w' := w2) (by omega) hold rfl rfl rfl
        have hR3 := hR2.growF (fun b => F b ∨ b = w.heap.size) (fun b h => .inl h) (fun b h => by
          rcases h with h | h
          · have := hR.Fb b h; omega
          · omega) (fun b h => by
          rcases h with h | h
          · exact .inl h
          · exact .inr (by rw [h]; exact hR.below.size)) (fun id bi hi hr hp hc => by
          obtain ⟨lb, hlb⟩ := Option.isSome_iff_exists.1 hi
          rcases hc with hc | hc
          · obtain ⟨bi', g1, g2, g3⟩ := hR.blks id lb hlb
            rw [hr] at g1; injection g1 with g1; subst g1
            exact (g3 hp).1 hc
          · have := hR.blk_lt hi hr hp; omega)
        refine ⟨_, w2, _, fin (by rw [he]; exact hrun), .inl rfl, _, ρ, hR3.mono_fr (fun _ h => h.1), ?_⟩
        have hrl : (irows .u8 (bytesL sv)).length = sv.size := by simp [irows, bytesL]
        have hgc : ∀ (k : Nat) (y : AV), (irows .u8 (bytesL sv)).flatten[k]? = some y → ∃ n : Int, y = .val (.int .u8 n) ∧ cells[k]? = some (.int .u8 n) := by
          intro k y hy
          rw [irows_flat, List.getElem?_map] at hy
          cases hk : (bytesL sv)[k]? with
          | none => simp [hk] at hy
          | some n =>
            simp [hk] at hy
            refine ⟨n, hy.symm, ?_⟩
            simp only [bytesL, List.getElem?_map, Array.getElem?_toList] at hk
            cases hb : sv.data[k]? with
            | none => simp [hb] at hk
            | some bb =>
              simp [hb] at hk
              have hlt := (Array.getElem?_eq_some_iff.1 hb).1
              simp only [cells, Array.getElem?_append, Array.size_map, hlt, if_true, Array.getElem?_map, hb, Option.map_some, hk]
        refine .sl _ _ _ 1 _ false w.heap.size 0 (fun k => cells.getD k undef) hrl.symm hcap (by simp) (fun r hr => by obtain ⟨n, _, rfl⟩ := List.mem_map.1 hr; rfl) (fun _ => ⟨rfl, .inr rfl⟩) (fun k y hy => ?_) (fun k y hy => ?_) (fun k y hy => ?_) (fun k y hy => by obtain ⟨n, rfl, hc⟩ := hgc k y hy; exact .val _)
        · obtain ⟨n, rfl, hc⟩ := hgc k y hy
          rw [cell_of_row w2 w.heap.size (0 + k) cells e fz hnew]
          simp [hc, Array.getD_eq_getD_getElem?]
        · obtain ⟨n, rfl, hc⟩ := hgc k y hy
          simp [Array.getD_eq_getD_getElem?, hc, Value.oneCell']
        · obtain ⟨n, rfl, hc⟩ := hgc k y hy
          simp only [Array.getD_eq_getD_getElem?, hc, Option.getD_some]
          exact .val _
      · rename_i hjd
        have hue := under_int (hT e j hj) hjd
        obtain ⟨rfl, rfl, rfl⟩ := hg
        have hel : Conv.runesFrom sv sv.size 0 #[] = ((runes sv).map fun r => Value.int .i32 r).toArray := by rw [runesFrom_eq]; simp [runes]
        let cap := (Question.appendCap (runes sv).length 0 e).cut (w.tape w.drawn (.appendCap (runes sv).length 0 e))
        let cells : Array Value := ((runes sv).map fun r => Value.int .i32 r).toArray ++ Array.replicate (cap - (runes sv).length) (.int .i32 0)
        have hcap : (runes sv).length ≤ cap := by simp only [cap, Question.cut]; omega
        have hcs : cells.size = cap := by simp [cells]; omega
        have hrun : (convert t d (.string sv)).run P w = .ok (.slice (some ⟨w.heap.size, 0, none⟩) (runes sv).length cap) (w.drew.alloc (.cells cells e)) := by
          simp only [convert, Sem.run_bind, run_underlying hut, run_underlying hu, Result.andThen_ok]
          cases dt <;> simp [sdOf, hsd] at hst
          simp [run_underlying hue, Conv.stringToRunes, hel, Question.forced, newRow, cells, cap]
        have h2' := hR.drew.alloc b (hfr 0 (by omega)) cells e 1 (irows .i32 (runes sv)) (fun r hr => by obtain ⟨n, _, rfl⟩ := List.mem_map.1 hr; rfl) (by simp [irows, hcs]; exact hcap) (fun k y hy => by
          rw [irows_flat, List.getElem?_map] at hy
          cases hk : (runes sv)[k]? with
          | none => simp [hk] at hy
          | some n =>
            simp [hk] at hy
            subst hy
            have hlt := (List.getElem?_eq_some_iff.1 hk).1
            have hc : cells[k]? = some (.int .i32 n) := by
              simp only [cells, Array.getElem?_append, List.size_toArray, List.length_map, hlt, if_true, List.getElem?_toArray, List.getElem?_map, hk, Option.map_some]
            simp only [Array.getD_eq_getD_getElem?, hc, Option.getD_some]
            exact ⟨rfl, .val _⟩)
        refine ⟨_, _, _, fin (by rw [he]; exact hrun), .inl rfl, F, _, h2'.mono_fr (fun q hq => ⟨hq.1, fun e => hq.2 ⟨by omega, by omega⟩⟩), ?_⟩
        refine .own _ b 0 _ cap ⟨w.heap.size, 0, 1, cells.size⟩ (by simp [putρ]) hcap (fun _ => ⟨by simp, by simp [hcs]⟩)
      · exact hg.elim
    · exact hg.elim
  · rename_i sz rows tg hd hx
    have hu := under_str (hT d q hq) hd
    split at hg
    · rename_i e hsd
      split at hg
      · rename_i j hj
        have hus : P.underlying t = some (.slice e) := under_slice (hT t p hp) hsd
        rw [hx] at hv
        generalize hve : a.eval x = ve at hv fin
        cases hv with
        | sl A n cp _ _ _ bl of vals hn hcp htt hw hA g0 g1 g2 g3 =>
          have main : ∀ (k : IntKind) (ns : List Int), rows = irows k ns → A = none ∧ ns = [] ∨ ∃ ad, A = some ad ∧ (loadCells ad n).run P w = .ok (ns.map (Value.int k)).toArray w := by
            intro k ns hns
            cases A with
            | none =>
              left
              refine ⟨rfl, ?_⟩
              by_cases hr : rows = []
              · have := congrArg List.length hns
                rw [hr] at this
                simp [irows] at this
                exact List.eq_nil_of_length_eq_zero this.symm
              · have := (hA hr).1; cases this
            | some ad =>
              right
              refine ⟨ad, rfl, ?_⟩
              have hnl : n = ns.length := by rw [hn, hns]; simp [irows]
              have : ns.length = (ns.map (Value.int k)).length := by simp
              rw [hnl, this]
              refine run_loadCells_list w ad _ (fun j v hj => ?_)
              have hr : rows ≠ [] := fun e => by
                rw [e] at hns
                have := congrArg List.length hns
                simp [irows] at this
                rw [List.eq_nil_of_length_eq_zero this.symm] at hj
                simp at hj
              obtain ⟨e1, e2⟩ := hA hr
              injection e1 with e1
              subst e1
              rw [List.getElem?_map] at hj
              cases hk : ns[j]? with
              | none => simp [hk] at hj
              | some m =>
                simp [hk] at hj
                have hf : rows.flatten[j]? = some (.val (.int k m)) := by rw [hns, irows_flat, List.getElem?_map, hk]; rfl
                rw [addr_add, g0 j _ hf]
                have := (g2 j _ hf).val_inv
                rw [this, hj]
          split at hg
          · rename_i hjd
            have hue := under_int (hT e j hj) hjd
            obtain ⟨ns, hns, rfl, rfl, rfl⟩ := hg
            refine Post.val hR (fin ?_) (.val _)
            rw [run_convert_bytes_string w t d e A n cp hus hue hu]
            rcases main _ ns hns with ⟨rfl, rfl⟩ | ⟨ad, rfl, hl⟩
            · simp [Conv.bytesToString, strL]; rfl
            · rw [run_bytesToString w ad n cp ns hl, strL_fold]
          · rename_i hjd
            have hue := under_int (hT e j hj) hjd
            obtain ⟨ns, hns, rfl, rfl, rfl⟩ := hg
            refine Post.val hR (fin ?_) (.val _)
            have hc : (convert t d (.slice A n cp)).run P w = (Conv.runesToString (.slice A n cp)).run P w := by simp [convert, run_underlying hus, run_underlying hu, run_underlying hue]
            rw [hc]
            rcases main _ ns hns with ⟨rfl, rfl⟩ | ⟨ad, rfl, hl⟩
            · simp [Conv.runesToString, runesStr]
            · exact run_runesToString ad n cp ns hl
          · exact hg.elim
      · exact hg.elim
    · exact hg.elim
  · rename_i id off len hd hx
    have hu := under_str (hT d q hq) hd
    split at hg
    · rename_i e sz rows hsd hlb
      split at hg
      · rename_i j hj
        have hus : P.underlying t = some (.slice e) := under_slice (hT t p hp) hsd
        obtain ⟨bi, q1, q2, q3, _⟩ := hR.block hlb
        obtain ⟨bi', r1, r2, r3⟩ := hR.cell hlb
        rw [q1] at r1; injection r1 with r1; subst r1
        rw [hx] at hv
        generalize hve : a.eval x = ve at hv fin
        cases hv with
        | own A _ _ _ cp bi' hr hl hA =>
          rw [q1] at hr; injection hr with hr; subst hr
          have main : ∀ (k : IntKind) (ns : List Int), off + len ≤ rows.length → (rows.drop off).take len = irows k ns → A = none ∧ ns = [] ∨ ∃ ad, A = some ad ∧ (loadCells ad len).run P w = .ok (ns.map (Value.int k)).toArray w := by
            intro k ns hle hns
            have hnl : len = ns.length := by
              have := congrArg List.length hns
              simp [irows] at this
              omega
            by_cases hl0 : len = 0
            · have hn0 : ns = [] := List.eq_nil_of_length_eq_zero (by omega)
              cases A with
              | none => exact .inl ⟨rfl, hn0⟩
              | some ad => exact .inr ⟨ad, rfl, by rw [hl0, hn0]; simp [loadCells, loadCellsFrom]⟩
            · obtain ⟨e1, e2⟩ := hA (by omega)
              right
              refine ⟨_, e1, ?_⟩
              have : ns.length = (ns.map (Value.int k)).length := by simp
              rw [hnl, this]
              refine run_loadCells_list w _ _ (fun j v hj => ?_)
              rw [List.getElem?_map] at hj
              cases hk : ns[j]? with
              | none => simp [hk] at hj
              | some m =>
                simp [hk] at hj
                have hf : ((rows.drop off).take len).flatten[j]? = some (.val (.int k m)) := by rw [hns, irows_flat, List.getElem?_map, hk]; rfl
                have hsub : ((rows.drop off).take len) = (rows.take (off + len)).drop off := by rw [List.drop_take]; congr 1; omega
                rw [hsub] at hf
                obtain ⟨vv, c1, c2, c3⟩ := r3 _ _ (flat_sub q3 off (off + len) j _ hf)
                rw [addr_add, q2, Nat.add_assoc, c1]
                have := c3.val_inv
                rw [this, hj]
          split at hg
          · rename_i hjd
            have hue := under_int (hT e j hj) hjd
            obtain ⟨ns, ⟨hle, hns⟩, rfl, rfl, rfl⟩ := hg
            refine Post.val hR (fin ?_) (.val _)
            rw [run_convert_bytes_string w t d e A len cp hus hue hu]
            rcases main _ ns hle hns with ⟨rfl, rfl⟩ | ⟨ad, rfl, hl⟩
            · simp [Conv.bytesToString, strL]; rfl
            · rw [run_bytesToString w ad len cp ns hl, strL_fold]
          · rename_i hjd
            have hue := under_int (hT e j hj) hjd
            obtain ⟨ns, ⟨hle, hns⟩, rfl, rfl, rfl⟩ := hg
            refine Post.val hR (fin ?_) (.val _)
            have hc : (convert t d (.slice A len cp)).run P w = (Conv.runesToString (.slice A len cp)).run P w := by simp [convert, run_underlying hus, run_underlying hu, run_underlying hue]
            rw [hc]
            rcases main _ ns hle hns with ⟨rfl, rfl⟩ | ⟨ad, rfl, hl⟩
            · simp [Conv.runesToString, runesStr]
            · exact run_runesToString ad len cp ns hl
          · exact hg.elim
      · exact hg.elim
    · exact hg.elim
  · exact hg.elim

end
end Go.AL
