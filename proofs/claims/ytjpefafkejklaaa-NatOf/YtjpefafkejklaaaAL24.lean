/- An abstract program logic over tree values (part 24): texts as lists of bytes. -/
import Derived.Test.YtjpefafkejklaaaAL23
import Derived.Laws.Strings
set_option linter.unusedVariables false
set_option linter.unusedSimpArgs false
namespace Go.AL
open Go Go.RowKit

/-- Bytes. -/
def Byt (l : List Int) : Prop := ∀ x ∈ l, 0 ≤ x ∧ x < 256

theorem Byt.cons {x : Int} {l : List Int} (h : Byt (x :: l)) : (0 ≤ x ∧ x < 256) ∧ Byt l := ⟨h x (by simp), fun y hy => h y (by simp [hy])⟩
theorem Byt.append {a b : List Int} (ha : Byt a) (hb : Byt b) : Byt (a ++ b) := fun x hx => (List.mem_append.1 hx).elim (ha x) (hb x)
theorem Byt.take {l : List Int} (h : Byt l) (k : Nat) : Byt (l.take k) := fun x hx => h x (List.mem_of_mem_take hx)
theorem Byt.drop {l : List Int} (h : Byt l) (k : Nat) : Byt (l.drop k) := fun x hx => h x (List.mem_of_mem_drop hx)
theorem Byt.reverse {l : List Int} (h : Byt l) : Byt l.reverse := fun x hx => h x (by simpa using hx)

theorem byte_of {x : Int} (h : 0 ≤ x ∧ x < 256) : ((UInt8.ofNat x.toNat).toNat : Int) = x := by
  rw [UInt8.toNat_ofNat']
  omega

theorem bytesL_strL {l : List Int} (h : Byt l) : bytesL (strL l) = l := by
  unfold bytesL strL
  simp only [List.map_map]
  induction l with
  | nil => rfl
  | cons x l ih =>
    rw [List.map_cons, ih h.cons.2]
    simp only [Function.comp]
    rw [byte_of h.cons.1]

theorem bytesL_byt (s : ByteArray) : Byt (bytesL s) := by
  intro x hx
  unfold bytesL at hx
  obtain ⟨b, _, rfl⟩ := List.mem_map.1 hx
  have := b.toNat_lt
  omega

theorem strL_bytesL (s : ByteArray) : strL (bytesL s) = s := by
  unfold strL bytesL
  rw [List.map_map]
  have : ((fun n : Int => UInt8.ofNat n.toNat) ∘ fun b : UInt8 => (b.toNat : Int)) = id := by
    funext b
    simp
  rw [this, List.map_id]

theorem strL_inj {a b : List Int} (ha : Byt a) (hb : Byt b) (h : strL a = strL b) : a = b := by
  rw [← bytesL_strL ha, ← bytesL_strL hb, h]

theorem strL_size (l : List Int) : (strL l).size = l.length := by
  show (strL l).data.size = _
  unfold strL
  simp

theorem bytesL_len (s : ByteArray) : (bytesL s).length = s.size := by
  unfold bytesL
  simp

theorem byteAt_strL {l : List Int} (h : Byt l) {i : Int} (h0 : 0 ≤ i) {x : Int} (hx : l[i.toNat]? = some x) : byteAt (strL l) i = x := by
  unfold byteAt strL
  simp only [List.getD, List.getElem?_map, hx, Option.map_some, Option.getD_some]
  exact byte_of (h x (List.mem_of_getElem? hx))

theorem strL_extract (l : List Int) (a b : Nat) : (strL l).extract a b = strL ((l.take b).drop a) := by
  apply ByteArray.ext
  rw [ByteArray.data_extract]
  unfold strL
  simp [List.map_take, List.map_drop, List.extract_eq_take_drop, List.drop_take]

theorem strL_append (a b : List Int) : strL a ++ strL b = strL (a ++ b) := by
  apply ByteArray.ext
  rw [ByteArray.data_append]
  unfold strL
  simp

theorem str_beq {a b : List Int} (ha : Byt a) (hb : Byt b) : ((strL a).toList == (strL b).toList) = decide (a = b) := by
  rw [ByteArray.toList_eq, ByteArray.toList_eq]
  by_cases h : a = b
  · rw [decide_eq_true h, h]; exact beq_self_eq_true _
  · rw [decide_eq_false h, beq_eq_false_iff_ne]
    intro e
    refine h (strL_inj ha hb ?_)
    exact ByteArray.ext (Array.toList_inj.1 e)

end Go.AL
