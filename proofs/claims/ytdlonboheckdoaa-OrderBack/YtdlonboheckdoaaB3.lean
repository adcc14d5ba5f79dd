/- Words of a line: the program's. -/
import Derived.Test.YtdlonboheckdoaaB2
set_option linter.unusedVariables false
namespace Go.Proofs.Ytdlonboheckdoaa
open Go Go.AL

def srows (l : List ByteArray) : List (List AV) := l.map fun s => [.val (.string s)]
theorem srows_noid (l : List ByteArray) : ∀ r ∈ srows l, ∀ x ∈ r, NoId x := by
  intro r hr x hx
  obtain ⟨n, _, rfl⟩ := List.mem_map.1 hr
  simp at hx; subst hx; exact .val _
theorem srows_len (l : List ByteArray) : (srows l).length = l.length := List.length_map _
theorem srows_get (l : List ByteArray) {i : Nat} {x : ByteArray} (h : l[i]? = some x) : (srows l)[i]? = some [.val (.string x)] := by
  unfold srows; rw [List.getElem?_map, h]; rfl
theorem slS_noid (l : List ByteArray) (t : Bool) : NoId (.sl 1 (srows l) t) := .sl _ _ _ (srows_noid l)
theorem srows_app (a b : List ByteArray) : srows a ++ srows b = srows (a ++ b) := by simp [srows]
theorem srows_take (l : List ByteArray) (n : Nat) : (srows l).take n = srows (l.take n) := by simp [srows]
theorem srows_drop (l : List ByteArray) (n : Nat) : (srows l).drop n = srows (l.drop n) := by simp [srows]

/-- The words so far, and the one that is begun. -/
def stepW (st : List (List Int) × List Int) (c : Int) : List (List Int) × List Int :=
  if c = 32 then (if st.2 = [] then st else (st.1 ++ [st.2], [])) else (st.1, st.2 ++ [c])
def wst (L : List Int) : List (List Int) × List Int := L.foldl stepW ([], [])
def segs (L : List Int) : List (List Int) := if (wst L).2 = [] then (wst L).1 else (wst L).1 ++ [(wst L).2]
def wordsL (L : List Int) : List ByteArray := (segs L).map runesStr
theorem wst_succ (L : List Int) {i : Nat} (h : i < L.length) : wst (L.take (i + 1)) = stepW (wst (L.take i)) L[i] := by
  unfold wst
  rw [List.take_succ_eq_append_getElem h, List.foldl_append]
  rfl
theorem wst_inv (L : List Int) : ∀ i, i ≤ L.length → (wst (L.take i)).2.length ≤ i ∧ (L.take i).drop (i - (wst (L.take i)).2.length) = (wst (L.take i)).2 ∧ (wst (L.take i)).1.length ≤ i
  | 0, _ => by simp [wst]
  | i + 1, h => by
    obtain ⟨h1, h2, h3⟩ := wst_inv L i (by omega)
    rw [wst_succ L (by omega)]
    generalize hst : wst (L.take i) = st at *
    unfold stepW
    by_cases c : L[i] = 32
    · rw [if_pos c]
      by_cases e : st.2 = []
      · rw [if_pos e, e]
        refine ⟨Nat.zero_le _, ?_, by omega⟩
        show (L.take (i + 1)).drop (i + 1) = []
        exact List.drop_eq_nil_of_le (by rw [List.length_take]; omega)
      · rw [if_neg e]
        refine ⟨Nat.zero_le _, ?_, by show (st.1 ++ [st.2]).length ≤ i + 1; rw [List.length_append]; simp; omega⟩
        exact List.drop_eq_nil_of_le (by rw [List.length_take]; show min _ _ ≤ i + 1 - 0; omega)
    · rw [if_neg c]
      refine ⟨by show (st.2 ++ [L[i]]).length ≤ _; rw [List.length_append]; simp; omega, ?_, by show st.1.length ≤ _; omega⟩
      show (L.take (i + 1)).drop (i + 1 - (st.2 ++ [L[i]]).length) = st.2 ++ [L[i]]
      rw [List.length_append, show i + 1 - (st.2.length + [L[i]].length) = i - st.2.length by simp, List.take_succ_eq_append_getElem (by omega), List.drop_append_of_le_length (by rw [List.length_take]; omega), h2]

theorem take_all {i : Nat} {l : List Int} (h : i = l.length) : l.take i = l := List.take_of_length_le (by omega)
/-- Where the begun word begins. -/
def fromW (L : List Int) (i : Nat) : Int := if (wst (L.take i)).2 = [] then -1 else ((i - (wst (L.take i)).2.length : Nat) : Int)

theorem Words_ok (L : List Int) (hb : L.length < 1000000000) : AC Try.prog 16 [.sl 1 (irows .i32 L) false] (.pure (.sl 1 (srows (wordsL L)) false)) := by
  refine AC.of_body TTok Try.func16 rfl (enter_of Try.func16 (by kernel_rfl) (by kernel_rfl)) (noid1 (slI_noid _ _ _)) (slS_noid _ _) (Nat.le_of_ble_eq_true rfl) ?_
  have hlen := irows_len .i32 L
  conv => whnf
  refine SW.nil 3 1 rfl ?_
  refine SW.loopM TTok (fun i : Nat => [(0, .sl 1 (irows .i32 L) false), (3, .own 48 0 (wst (L.take i)).1.length), (4, .val (.int .i64 (fromW L i))), (7, .sl 1 (irows .i32 L) false), (8, .val (.int .i64 (irows .i32 L).length)), (9, .val (.int .i64 (i : Int)))])
    (fun i => [(48, .cells 1 (srows ((wst (L.take i)).1.map runesStr)))]) 56 48 rfl (fun i => L.length - i) (fun i => i ≤ L.length) 0 [] (Nat.zero_le _)
    ⟨⟨rfl, rfl⟩, ⟨rfl, rfl⟩, ⟨rfl, rfl⟩, ⟨rfl, rfl⟩, ⟨rfl, rfl⟩, ⟨rfl, rfl⟩, trivial⟩ ⟨⟨rfl, .inl ⟨rfl, srows_noid _⟩⟩, trivial⟩ rfl ?_
  intro i hi
  have hi : i ≤ L.length := hi
  obtain ⟨v1, v2, v3⟩ := wst_inv L i hi
  have hsl := srows_len ((wst (L.take i)).1.map runesStr)
  rw [List.length_map] at hsl
  conv => whnf
  refine caseb (fun h1 => ?_) (fun h1 => ?_)
  · have h1' : (i : Int) < (irows .i32 L).length := of_decide_eq_true h1
    have hlt : i < L.length := by omega
    have hS := wst_succ L hlt
    have hF : fromW L i = if (wst (L.take i)).2 = [] then -1 else ((i - (wst (L.take i)).2.length : Nat) : Int) := rfl
    have hF' : fromW L (i + 1) = if (wst (L.take (i + 1))).2 = [] then -1 else ((i + 1 - (wst (L.take (i + 1))).2.length : Nat) : Int) := rfl
    have eI : IntKind.i64.wrap ((i : Int) + 1) = ((i + 1 : Nat) : Int) := by rw [IntWalk.i64_in _ (by omega)]; omega
    conv => whnf
    refine ⟨_, ⟨by omega, irows_get _ _ (List.getElem?_eq_getElem hlt)⟩, ?_⟩
    generalize hst : wst (L.take i) = st at *
    generalize fromW L i = fr at *
    by_cases c : L[i] = 32
    · by_cases e : st.2 = []
      · rw [if_pos e] at hF
        have hst' : wst (L.take (i + 1)) = st := by rw [hS]; unfold stepW; rw [if_pos c, if_pos e]
        rw [hst', if_pos e] at hF'
        conv => whnf
        first
          | refine caseb (fun h => absurd (bne_iff_ne.1 h) (by omega)) (fun _ => ?_)
          | refine caseb (fun _ => ?_) (fun h => absurd (bne_eq_false_iff_eq.1 h) (by omega))
        conv => whnf
        first
          | refine caseb (fun _ => ?_) (fun h => absurd (of_decide_eq_false h) (by omega))
          | refine caseb (fun h => absurd (of_decide_eq_true h) (by omega)) (fun _ => ?_)
          | refine caseb (fun _ => ?_) (fun h => absurd (beq_eq_false_iff_ne.1 h) (by omega))
          | refine caseb (fun h => absurd (eq_of_beq h) (by omega)) (fun _ => ?_)
        conv => whnf
        first
          | refine caseb (fun _ => ?_) (fun h => absurd (of_decide_eq_false h) (by omega))
          | refine caseb (fun h => absurd (of_decide_eq_true h) (by omega)) (fun _ => ?_)
          | refine caseb (fun _ => ?_) (fun h => absurd (beq_eq_false_iff_ne.1 h) (by omega))
          | refine caseb (fun h => absurd (eq_of_beq h) (by omega)) (fun _ => ?_)
        conv => whnf
        refine ⟨i + 1, [], (by show L.length - (i + 1) < L.length - i; omega), hlt, ⟨⟨rfl, rfl⟩, ⟨ownE rfl (by rw [hst']), rfl⟩, ⟨valI (by rw [hF, hF']), rfl⟩, ⟨rfl, rfl⟩, ⟨rfl, rfl⟩, ⟨valI eI, rfl⟩, trivial⟩, ⟨⟨rfl, .inl ⟨celE (by rw [hst']), srows_noid _⟩⟩, trivial⟩, rfl⟩
      · rw [if_neg e] at hF
        have hpos : 0 < st.2.length := Nat.pos_of_ne_zero (fun h => e (List.length_eq_zero_iff.1 h))
        have hst' : wst (L.take (i + 1)) = (st.1 ++ [st.2], []) := by rw [hS]; unfold stepW; rw [if_pos c, if_neg e]
        rw [hst', if_pos rfl] at hF'
        conv => whnf
        first
          | refine caseb (fun h => absurd (bne_iff_ne.1 h) (by omega)) (fun _ => ?_)
          | refine caseb (fun _ => ?_) (fun h => absurd (bne_eq_false_iff_eq.1 h) (by omega))
        conv => whnf
        first
          | refine caseb (fun _ => ?_) (fun h => absurd (of_decide_eq_false h) (by omega))
          | refine caseb (fun h => absurd (of_decide_eq_true h) (by omega)) (fun _ => ?_)
          | refine caseb (fun _ => ?_) (fun h => absurd (beq_eq_false_iff_ne.1 h) (by omega))
          | refine caseb (fun h => absurd (eq_of_beq h) (by omega)) (fun _ => ?_)
        conv => whnf
        first
          | refine caseb (fun _ => ?_) (fun h => absurd (of_decide_eq_false h) (by omega))
          | refine caseb (fun h => absurd (of_decide_eq_true h) (by omega)) (fun _ => ?_)
          | refine caseb (fun _ => ?_) (fun h => absurd (beq_eq_false_iff_ne.1 h) (by omega))
          | refine caseb (fun h => absurd (eq_of_beq h) (by omega)) (fun _ => ?_)
        conv => whnf
        refine ⟨⟨by omega, by omega, by omega⟩, ?_⟩
        conv => whnf
        refine ⟨st.2, by rw [irows_take, irows_drop, show (i : Int).toNat = i by omega, show fr.toNat = i - st.2.length by omega, v2], ?_⟩
        conv => whnf
        refine ⟨⟨by show 0 + st.1.length ≤ _; omega, by show (st.1.length + 1) * 16 ≤ 140737488355328; omega, Nat.le_of_ble_eq_true rfl⟩, ?_⟩
        conv => whnf
        refine ⟨i + 1, [(48, 272)], (by show L.length - (i + 1) < L.length - i; omega), hlt, ⟨⟨rfl, rfl⟩, ⟨ownE rfl ?_, rfl⟩, ⟨valI hF'.symm, rfl⟩, ⟨rfl, rfl⟩, ⟨rfl, rfl⟩, ⟨valI eI, rfl⟩, trivial⟩, ⟨⟨rfl, .inl ⟨celE ?_, srows_noid _⟩⟩, trivial⟩, rfl⟩
        · rw [hst']
          show st.1.length + 1 = (st.1 ++ [st.2]).length
          rw [List.length_append]; rfl
        · rw [hst']
          show (List.drop 0 (srows (st.1.map runesStr))).take st.1.length ++ srows [runesStr st.2] = srows ((st.1 ++ [st.2]).map runesStr)
          rw [List.drop_zero, List.take_of_length_le (by omega), srows_app, List.map_append]; rfl
    · by_cases e : st.2 = []
      · rw [if_pos e] at hF
        have hst' : wst (L.take (i + 1)) = (st.1, [L[i]]) := by rw [hS]; unfold stepW; rw [if_neg c, e]; rfl
        rw [hst', if_neg (fun h => by cases h)] at hF'
        conv => whnf
        first
          | refine caseb (fun h => absurd (bne_iff_ne.1 h) (by omega)) (fun _ => ?_)
          | refine caseb (fun _ => ?_) (fun h => absurd (bne_eq_false_iff_eq.1 h) (by omega))
        conv => whnf
        first
          | refine caseb (fun _ => ?_) (fun h => absurd (of_decide_eq_false h) (by omega))
          | refine caseb (fun h => absurd (of_decide_eq_true h) (by omega)) (fun _ => ?_)
          | refine caseb (fun _ => ?_) (fun h => absurd (beq_eq_false_iff_ne.1 h) (by omega))
          | refine caseb (fun h => absurd (eq_of_beq h) (by omega)) (fun _ => ?_)
        conv => whnf
        refine ⟨i + 1, [], (by show L.length - (i + 1) < L.length - i; omega), hlt, ⟨⟨rfl, rfl⟩, ⟨ownE rfl (by rw [hst']), rfl⟩, ⟨valI (by rw [hF']; rfl), rfl⟩, ⟨rfl, rfl⟩, ⟨rfl, rfl⟩, ⟨valI eI, rfl⟩, trivial⟩, ⟨⟨rfl, .inl ⟨celE (by rw [hst']), srows_noid _⟩⟩, trivial⟩, rfl⟩
      · rw [if_neg e] at hF
        have hst' : wst (L.take (i + 1)) = (st.1, st.2 ++ [L[i]]) := by rw [hS]; unfold stepW; rw [if_neg c]
        rw [hst', if_neg (by simp)] at hF'
        conv => whnf
        first
          | refine caseb (fun h => absurd (bne_iff_ne.1 h) (by omega)) (fun _ => ?_)
          | refine caseb (fun _ => ?_) (fun h => absurd (bne_eq_false_iff_eq.1 h) (by omega))
        conv => whnf
        first
          | refine caseb (fun _ => ?_) (fun h => absurd (of_decide_eq_false h) (by omega))
          | refine caseb (fun h => absurd (of_decide_eq_true h) (by omega)) (fun _ => ?_)
          | refine caseb (fun _ => ?_) (fun h => absurd (beq_eq_false_iff_ne.1 h) (by omega))
          | refine caseb (fun h => absurd (eq_of_beq h) (by omega)) (fun _ => ?_)
        conv => whnf
        first
          | refine caseb (fun _ => ?_) (fun h => absurd (of_decide_eq_false h) (by omega))
          | refine caseb (fun h => absurd (of_decide_eq_true h) (by omega)) (fun _ => ?_)
          | refine caseb (fun _ => ?_) (fun h => absurd (beq_eq_false_iff_ne.1 h) (by omega))
          | refine caseb (fun h => absurd (eq_of_beq h) (by omega)) (fun _ => ?_)
        conv => whnf
        refine ⟨i + 1, [], (by show L.length - (i + 1) < L.length - i; omega), hlt, ⟨⟨rfl, rfl⟩, ⟨ownE rfl (by rw [hst']), rfl⟩, ⟨valI (by rw [hF, hF']; simp), rfl⟩, ⟨rfl, rfl⟩, ⟨rfl, rfl⟩, ⟨valI eI, rfl⟩, trivial⟩, ⟨⟨rfl, .inl ⟨celE (by rw [hst']), srows_noid _⟩⟩, trivial⟩, rfl⟩
  · have h1' : ¬ (i : Int) < (irows .i32 L).length := of_decide_eq_false h1
    have hiL : i = L.length := by omega
    have hF : fromW L i = if (wst (L.take i)).2 = [] then -1 else ((i - (wst (L.take i)).2.length : Nat) : Int) := rfl
    have hw : wordsL L = (if (wst (L.take i)).2 = [] then (wst (L.take i)).1 else (wst (L.take i)).1 ++ [(wst (L.take i)).2]).map runesStr := by
      rw [take_all hiL]; rfl
    generalize hst : wst (L.take i) = st at *
    generalize fromW L i = fr at *
    by_cases e : st.2 = []
    · rw [if_pos e] at hF hw
      rw [hw]
      conv => whnf
      first
        | refine caseb (fun _ => ?_) (fun h => absurd (of_decide_eq_false h) (by omega))
        | refine caseb (fun h => absurd (of_decide_eq_true h) (by omega)) (fun _ => ?_)
        | refine caseb (fun _ => ?_) (fun h => absurd (beq_eq_false_iff_ne.1 h) (by omega))
        | refine caseb (fun h => absurd (eq_of_beq h) (by omega)) (fun _ => ?_)
      conv => whnf
      refine ⟨by show 0 + st.1.length ≤ _; omega, ?_⟩
      show AV.sl 1 (((srows (st.1.map runesStr)).drop 0).take st.1.length) false = _
      rw [List.drop_zero, List.take_of_length_le (by omega)]
    · rw [if_neg e] at hF hw
      rw [hw]
      have hpos : 0 < st.2.length := Nat.pos_of_ne_zero (fun h => e (List.length_eq_zero_iff.1 h))
      conv => whnf
      first
        | refine caseb (fun _ => ?_) (fun h => absurd (of_decide_eq_false h) (by omega))
        | refine caseb (fun h => absurd (of_decide_eq_true h) (by omega)) (fun _ => ?_)
        | refine caseb (fun _ => ?_) (fun h => absurd (beq_eq_false_iff_ne.1 h) (by omega))
        | refine caseb (fun h => absurd (eq_of_beq h) (by omega)) (fun _ => ?_)
      conv => whnf
      refine ⟨⟨by omega, by omega⟩, ?_⟩
      conv => whnf
      refine ⟨st.2, by rw [irows_take, irows_drop, show fr.toNat = i - st.2.length by omega, List.take_of_length_le (by omega), ← take_all hiL, v2], ?_⟩
      conv => whnf
      refine ⟨⟨by show 0 + st.1.length ≤ _; omega, by show (st.1.length + 1) * 16 ≤ 140737488355328; omega, Nat.le_of_ble_eq_true rfl⟩, ?_⟩
      conv => whnf
      have er : (List.drop 0 (srows (st.1.map runesStr))).take st.1.length ++ srows [runesStr st.2] = srows ((st.1 ++ [st.2]).map runesStr) := by
        rw [List.drop_zero, List.take_of_length_le (by omega), srows_app, List.map_append]; rfl
      have el : (srows ((st.1 ++ [st.2]).map runesStr)).length = st.1.length + 1 := by rw [srows_len, List.length_map, List.length_append]; rfl
      refine ⟨?_, ?_⟩
      · show 0 + (st.1.length + 1) ≤ ((List.drop 0 (srows (st.1.map runesStr))).take st.1.length ++ srows [runesStr st.2]).length
        rw [er]; omega
      · show AV.sl 1 ((((List.drop 0 (srows (st.1.map runesStr))).take st.1.length ++ srows [runesStr st.2]).drop 0).take (st.1.length + 1)) false = _
        rw [er, List.drop_zero, List.take_of_length_le (by omega)]

end Go.Proofs.Ytdlonboheckdoaa

/- Words of a line: the document's. -/
set_option linter.unusedVariables false
namespace Go.Proofs.Ytdlonboheckdoaa
open Go Go.AL

theorem encode_pos (c : Int) : 0 < (Utf8.encode c).size := by
  unfold Utf8.encode
  dsimp only
  repeat' split
  all_goals exact Nat.le_of_ble_eq_true rfl
theorem runesStr_snoc (g : List Int) (c : Int) : runesStr (g ++ [c]) = runesStr g ++ Utf8.encode c := by
  unfold runesStr; rw [List.foldl_append]; rfl
theorem runesStr_nil : runesStr [] = ByteArray.empty := rfl
theorem runesStr_size (g : List Int) (h : g ≠ []) : 0 < (runesStr g).size := by
  rw [← List.dropLast_concat_getLast h, runesStr_snoc, ByteArray.size_append]
  have := encode_pos (g.getLast h)
  omega
theorem encode_le (c : Int) : (Utf8.encode c).size ≤ 4 := by
  unfold Utf8.encode
  dsimp only
  repeat' split
  all_goals exact Nat.le_of_ble_eq_true rfl
theorem runesStr_foldl (g : List Int) : ∀ a : ByteArray, (g.foldl (fun s n => s ++ Utf8.encode n) a).size ≤ a.size + 4 * g.length := by
  induction g with
  | nil => intro a; exact Nat.le_refl _
  | cons c g ih =>
    intro a
    have h1 := ih (a ++ Utf8.encode c)
    have h2 := encode_le c
    rw [ByteArray.size_append] at h1
    show (List.foldl _ (a ++ Utf8.encode c) g).size ≤ a.size + 4 * (g.length + 1)
    omega
theorem runesStr_le (g : List Int) : (runesStr g).size ≤ 4 * g.length := by
  have := runesStr_foldl g ByteArray.empty
  unfold runesStr
  have h0 : ByteArray.empty.size = 0 := rfl
  omega
theorem toList_eq (s : ByteArray) : s.toList = s.data.toList := ByteArray.toList_eq s
theorem emp_t (s : ByteArray) : (s.toList == ({ data := #[] } : ByteArray).toList) = decide (s.size = 0) := by
  by_cases h : s.size = 0
  · rw [decide_eq_true h, beq_iff_eq]
    have : s.data.toList = [] := List.length_eq_zero_iff.1 (by simpa using h)
    rw [toList_eq, toList_eq, this]
  · rw [decide_eq_false h, beq_eq_false_iff_ne]
    intro e
    rw [toList_eq, toList_eq] at e
    have : s.data.toList.length = 0 := by rw [e]; rfl
    exact h (by simpa using this)

def outR (L : List Int) (i : Nat) : List ByteArray := if i = L.length then wordsL L else (wst (L.take i)).1.map runesStr
def sR (L : List Int) (i : Nat) : ByteArray := if i = L.length then ByteArray.empty else runesStr (wst (L.take i)).2
theorem outR_len (L : List Int) {i : Nat} (h : i ≤ L.length) : (outR L i).length ≤ i + 1 := by
  obtain ⟨v1, v2, v3⟩ := wst_inv L i h
  unfold outR
  split
  · rename_i e
    unfold wordsL segs
    rw [List.length_map, ← take_all e]
    split
    · omega
    · rw [List.length_append]
      show (wst (L.take i)).1.length + 1 ≤ _
      omega
  · rw [List.length_map]; omega
theorem outR_next (L : List Int) {i : Nat} (h : i < L.length) {d : List (List Int)} {u : List Int} (e : wst (L.take (i + 1)) = (d, u)) :
    outR L (i + 1) = (if i + 1 = L.length ∧ u ≠ [] then d ++ [u] else d).map runesStr ∧ sR L (i + 1) = if i + 1 = L.length then ByteArray.empty else runesStr u := by
  unfold outR sR
  by_cases hl : i + 1 = L.length
  · rw [if_pos hl, if_pos hl, if_pos hl]
    refine ⟨?_, rfl⟩
    unfold wordsL segs
    rw [← take_all hl, e]
    by_cases hu : u = []
    · rw [if_pos hu, if_neg (fun h => h.2 hu)]
    · rw [if_neg hu, if_pos ⟨by rw [take_all hl]; exact hl, hu⟩]
  · rw [if_neg hl, if_neg hl, if_neg hl, if_neg (fun h => hl h.1), e]
    exact ⟨rfl, rfl⟩

theorem RWords_ok (L : List Int) (hb : L.length < 1000000000) : AC Try.prog 19 [.sl 1 (irows .i32 L) false] (.pure (.sl 1 (srows (wordsL L)) false)) := by
  refine AC.of_body TTok Try.func19 rfl (enter_of Try.func19 (by kernel_rfl) (by kernel_rfl)) (noid1 (slI_noid _ _ _)) (slS_noid _ _) (Nat.le_of_ble_eq_true rfl) ?_
  have hlen := irows_len .i32 L
  conv => whnf
  refine SW.nil 3 1 rfl ?_
  refine SW.loopM TTok (fun i : Nat => [(0, .sl 1 (irows .i32 L) false), (3, .own 32 0 (outR L i).length), (4, .val (.string (sR L i))), (5, .val (.int .i64 (i : Int)))])
    (fun i => [(32, .cells 1 (srows (outR L i)))]) 40 45 rfl (fun i => L.length - i) (fun i => i ≤ L.length) 0 [] (Nat.zero_le _)
    ⟨⟨rfl, rfl⟩, ⟨ownE rfl ?_, rfl⟩, ⟨strE ?_, rfl⟩, ⟨rfl, rfl⟩, trivial⟩ ⟨⟨rfl, .inl ⟨celE ?_, srows_noid _⟩⟩, trivial⟩ rfl ?_
  · unfold outR; split
    · rename_i e
      have : L = [] := List.length_eq_zero_iff.1 e.symm
      rw [this]; rfl
    · rfl
  · unfold sR; split <;> rfl
  · unfold outR; split
    · rename_i e
      have : L = [] := List.length_eq_zero_iff.1 e.symm
      rw [this]; rfl
    · rfl
  intro i hi
  have hi : i ≤ L.length := hi
  obtain ⟨v1, v2, v3⟩ := wst_inv L i hi
  have hol := outR_len L hi
  have hsl := srows_len (outR L i)
  conv => whnf
  refine caseb (fun h1 => ?_) (fun h1 => ?_)
  · have h1' : (i : Int) < (irows .i32 L).length := of_decide_eq_true h1
    have hlt : i < L.length := by omega
    have hS := wst_succ L hlt
    have eI : IntKind.i64.wrap ((i : Int) + 1) = ((i + 1 : Nat) : Int) := by rw [IntWalk.i64_in _ (by omega)]; omega
    have eL : IntKind.i64.wrap (((irows .i32 L).length : Int) - 1) = ((L.length - 1 : Nat) : Int) := by rw [IntWalk.i64_in _ (by omega)]; omega
    have ho : outR L i = (wst (L.take i)).1.map runesStr := if_neg (by omega)
    have hs : sR L i = runesStr (wst (L.take i)).2 := if_neg (by omega)
    conv => whnf
    refine ⟨_, ⟨by omega, irows_get _ _ (List.getElem?_eq_getElem hlt)⟩, ?_⟩
    generalize hst : wst (L.take i) = st at *
    generalize outR L i = oi at *
    generalize sR L i = si at *
    by_cases c : L[i] = 32
    · by_cases e : st.2 = []
      · have hst' : wst (L.take (i + 1)) = (st.1, []) := by rw [hS]; unfold stepW; rw [if_pos c, if_pos e, ← e]
        obtain ⟨n1, n2⟩ := outR_next L hlt hst'
        rw [if_neg (fun h => h.2 rfl)] at n1
        have n2 : sR L (i + 1) = si := by rw [n2, hs, e]; split <;> rfl
        have f1 : (!(si.toList == ({ data := #[] } : ByteArray).toList)) = false := by rw [emp_t, hs, e]; rfl
        conv => whnf
        first
          | refine caseb (fun h => absurd (bne_iff_ne.1 h) (by omega)) (fun _ => ?_)
          | refine caseb (fun _ => ?_) (fun h => absurd (bne_eq_false_iff_eq.1 h) (by omega))
        conv => whnf
        refine caseb (fun h => Bool.noConfusion ((f1).symm.trans h)) (fun _ => ?_)
        conv => whnf
        refine ⟨i + 1, [], (by show L.length - (i + 1) < L.length - i; omega), hlt, ⟨⟨rfl, rfl⟩, ⟨ownE rfl (by rw [n1, ho]), rfl⟩, ⟨strE n2.symm, rfl⟩, ⟨valI eI, rfl⟩, trivial⟩, ⟨⟨rfl, .inl ⟨celE (by rw [n1, ho]), srows_noid _⟩⟩, trivial⟩, rfl⟩
      · have hst' : wst (L.take (i + 1)) = (st.1 ++ [st.2], []) := by rw [hS]; unfold stepW; rw [if_pos c, if_neg e]
        obtain ⟨n1, n2⟩ := outR_next L hlt hst'
        rw [if_neg (fun h => h.2 rfl)] at n1
        have n2 : sR L (i + 1) = ByteArray.empty := by rw [n2]; split <;> rfl
        have f1 : (!(si.toList == ({ data := #[] } : ByteArray).toList)) = true := by
          rw [emp_t, hs, decide_eq_false (by have := runesStr_size st.2 e; omega)]; rfl
        conv => whnf
        first
          | refine caseb (fun h => absurd (bne_iff_ne.1 h) (by omega)) (fun _ => ?_)
          | refine caseb (fun _ => ?_) (fun h => absurd (bne_eq_false_iff_eq.1 h) (by omega))
        conv => whnf
        refine caseb (fun _ => ?_) (fun h => Bool.noConfusion ((f1).symm.trans h))
        conv => whnf
        refine ⟨_, ⟨by omega, irows_get _ _ (List.getElem?_eq_getElem hlt)⟩, ?_⟩
        conv => whnf
        first
          | refine caseb (fun _ => ?_) (fun h => absurd (of_decide_eq_false h) (by omega))
          | refine caseb (fun h => absurd (of_decide_eq_true h) (by omega)) (fun _ => ?_)
          | refine caseb (fun _ => ?_) (fun h => absurd (beq_eq_false_iff_ne.1 h) (by omega))
          | refine caseb (fun h => absurd (eq_of_beq h) (by omega)) (fun _ => ?_)
        conv => whnf
        refine ⟨⟨by show 0 + oi.length ≤ _; omega, by show (oi.length + 1) * 16 ≤ 140737488355328; omega, Nat.le_of_ble_eq_true rfl⟩, ?_⟩
        conv => whnf
        refine ⟨i + 1, [(32, 264)], (by show L.length - (i + 1) < L.length - i; omega), hlt, ⟨⟨rfl, rfl⟩, ⟨ownE rfl ?_, rfl⟩, ⟨strE n2.symm, rfl⟩, ⟨valI eI, rfl⟩, trivial⟩, ⟨⟨rfl, .inl ⟨celE ?_, srows_noid _⟩⟩, trivial⟩, rfl⟩
        · rw [n1, ho, List.map_append, List.length_append]; rfl
        · rw [n1]
          show (List.drop 0 (srows oi)).take oi.length ++ srows [si] = srows ((st.1 ++ [st.2]).map runesStr)
          rw [List.drop_zero, List.take_of_length_le (by omega), srows_app, List.map_append, ho, hs]; rfl
    · have hst' : wst (L.take (i + 1)) = (st.1, st.2 ++ [L[i]]) := by rw [hS]; unfold stepW; rw [if_neg c]
      obtain ⟨n1, n2⟩ := outR_next L hlt hst'
      have hss : si ++ Utf8.encode L[i] = runesStr (st.2 ++ [L[i]]) := by rw [runesStr_snoc, hs]
      have f1 : (!((si ++ Utf8.encode L[i]).toList == ({ data := #[] } : ByteArray).toList)) = true := by
        rw [hss, emp_t, decide_eq_false (by have := runesStr_size (st.2 ++ [L[i]]) (by simp); omega)]; rfl
      conv => whnf
      first
        | refine caseb (fun h => absurd (bne_iff_ne.1 h) (by omega)) (fun _ => ?_)
        | refine caseb (fun _ => ?_) (fun h => absurd (bne_eq_false_iff_eq.1 h) (by omega))
      conv => whnf
      refine ⟨_, ⟨by omega, irows_get _ _ (List.getElem?_eq_getElem hlt)⟩, ?_⟩
      have z1 := runesStr_le st.2
      have z2 := encode_le L[i]
      conv => whnf
      refine ⟨by rw [hs]; omega, ?_⟩
      conv => whnf
      refine caseb (fun _ => ?_) (fun h => Bool.noConfusion ((f1).symm.trans h))
      conv => whnf
      refine ⟨_, ⟨by omega, irows_get _ _ (List.getElem?_eq_getElem hlt)⟩, ?_⟩
      by_cases hl : i + 1 = L.length
      · rw [if_pos ⟨hl, by simp⟩] at n1
        rw [if_pos hl] at n2
        have f2 : ((i : Int) == IntKind.i64.wrap (((irows .i32 L).length : Int) - 1)) = true := by rw [eL]; exact beq_iff_eq.2 (by omega)
        conv => whnf
        first
          | refine caseb (fun _ => ?_) (fun h => absurd (of_decide_eq_false h) (by omega))
          | refine caseb (fun h => absurd (of_decide_eq_true h) (by omega)) (fun _ => ?_)
          | refine caseb (fun _ => ?_) (fun h => absurd (beq_eq_false_iff_ne.1 h) (by omega))
          | refine caseb (fun h => absurd (eq_of_beq h) (by omega)) (fun _ => ?_)
        conv => whnf
        refine caseb (fun _ => ?_) (fun h => Bool.noConfusion ((f2).symm.trans h))
        conv => whnf
        refine ⟨⟨by show 0 + oi.length ≤ _; omega, by show (oi.length + 1) * 16 ≤ 140737488355328; omega, Nat.le_of_ble_eq_true rfl⟩, ?_⟩
        conv => whnf
        refine ⟨i + 1, [(32, 328)], (by show L.length - (i + 1) < L.length - i; omega), hlt, ⟨⟨rfl, rfl⟩, ⟨ownE rfl ?_, rfl⟩, ⟨strE n2.symm, rfl⟩, ⟨valI eI, rfl⟩, trivial⟩, ⟨⟨rfl, .inl ⟨celE ?_, srows_noid _⟩⟩, trivial⟩, rfl⟩
        · rw [n1, ho, List.map_append, List.length_append]; rfl
        · rw [n1]
          show (List.drop 0 (srows oi)).take oi.length ++ srows [si ++ Utf8.encode L[i]] = srows ((st.1 ++ [st.2 ++ [L[i]]]).map runesStr)
          rw [List.drop_zero, List.take_of_length_le (by omega), srows_app, List.map_append, ho, hss]; rfl
      · rw [if_neg (fun h => hl h.1)] at n1
        rw [if_neg hl] at n2
        have f2 : ((i : Int) == IntKind.i64.wrap (((irows .i32 L).length : Int) - 1)) = false := by rw [eL]; exact beq_false_of_ne (by omega)
        conv => whnf
        first
          | refine caseb (fun _ => ?_) (fun h => absurd (of_decide_eq_false h) (by omega))
          | refine caseb (fun h => absurd (of_decide_eq_true h) (by omega)) (fun _ => ?_)
          | refine caseb (fun _ => ?_) (fun h => absurd (beq_eq_false_iff_ne.1 h) (by omega))
          | refine caseb (fun h => absurd (eq_of_beq h) (by omega)) (fun _ => ?_)
        conv => whnf
        refine caseb (fun h => Bool.noConfusion ((f2).symm.trans h)) (fun _ => ?_)
        conv => whnf
        refine ⟨i + 1, [], (by show L.length - (i + 1) < L.length - i; omega), hlt, ⟨⟨rfl, rfl⟩, ⟨ownE rfl (by rw [n1, ho]), rfl⟩, ⟨strE (by rw [n2, hss]), rfl⟩, ⟨valI eI, rfl⟩, trivial⟩, ⟨⟨rfl, .inl ⟨celE (by rw [n1, ho]), srows_noid _⟩⟩, trivial⟩, rfl⟩
  · have h1' : ¬ (i : Int) < (irows .i32 L).length := of_decide_eq_false h1
    have hiL : i = L.length := by omega
    have ho : outR L i = wordsL L := if_pos hiL
    generalize outR L i = oi at *
    conv => whnf
    refine ⟨by show 0 + oi.length ≤ _; omega, ?_⟩
    show AV.sl 1 (((srows oi).drop 0).take oi.length) false = _
    rw [List.drop_zero, List.take_of_length_le (by omega), ho]

end Go.Proofs.Ytdlonboheckdoaa

/- Lines that are commands. -/
set_option linter.unusedVariables false
namespace Go.Proofs.Ytdlonboheckdoaa
open Go Go.AL

def blank (c : Int) : Bool := c == 32
/-- Without the blanks at the end. -/
def stripE (M : List Int) : List Int := (M.reverse.dropWhile blank).reverse
theorem stripE_last (N : List Int) (h : N.length - 1 < N.length) : stripE N = if N[N.length - 1] = 32 then stripE (N.take (N.length - 1)) else N := by
  have e : N = N.take (N.length - 1) ++ [N[N.length - 1]] := by
    rw [← List.take_succ_eq_append_getElem h, List.take_of_length_le (by omega)]
  generalize N[N.length - 1] = z at *
  generalize N.take (N.length - 1) = M at *
  rw [e]
  unfold stripE
  rw [List.reverse_append, List.reverse_singleton, List.singleton_append, List.dropWhile_cons]
  by_cases hz : z = 32
  · rw [if_pos hz, if_pos (by rw [hz]; rfl)]
  · rw [if_neg hz, if_neg (by unfold blank; rw [beq_false_of_ne hz]; decide), List.reverse_cons, List.reverse_reverse]
theorem stripE_head (a : Int) (h : a ≠ 32) : ∀ n (l : List Int), l.length ≤ n → ∃ l', stripE (a :: l) = a :: l'
  | 0, l, hl => by
    have : l = [] := List.length_eq_zero_iff.1 (by omega)
    rw [this]
    refine ⟨[], ?_⟩
    rw [stripE_last [a] (Nat.lt_succ_self 0)]
    exact if_neg h
  | n + 1, l, hl => by
    have hlt : (a :: l).length - 1 < (a :: l).length := by simp
    rw [stripE_last _ hlt]
    split
    · rename_i hz
      cases l with
      | nil => exact absurd hz h
      | cons b l =>
        have : (a :: b :: l).take ((a :: b :: l).length - 1) = a :: (b :: l).take l.length := rfl
        rw [this]
        exact stripE_head a h n _ (by rw [List.length_take]; simp at hl; omega)
    · exact ⟨l, rfl⟩

theorem Trim_ok (L : List Int) (hb : L.length < 1000000000) : AC Try.prog 20 [.sl 1 (irows .i32 L) false] (.pure (.sl 1 (irows .i32 (stripE (L.dropWhile blank))) false)) := by
  refine AC.of_body TTok Try.func20 rfl (enter_of Try.func20 (by kernel_rfl) (by kernel_rfl)) (noid1 (slI_noid _ _ _)) (slI_noid _ _ _) (Nat.le_of_ble_eq_true rfl) ?_
  conv => whnf
  refine SW.loopM TTok (fun M : List Int => [(0, .sl 1 (irows .i32 M) false)]) (fun M => []) 8 32 rfl (fun M => M.length) (fun M => M.dropWhile blank = L.dropWhile blank ∧ M.length ≤ L.length) L [] ⟨rfl, Nat.le_refl _⟩
    ⟨⟨rfl, rfl⟩, trivial⟩ trivial rfl ?_
  intro M hJ
  have hM : M.dropWhile blank = L.dropWhile blank := hJ.1
  have hle : M.length ≤ L.length := hJ.2
  clear hJ
  cases M with
  | nil =>
    conv => whnf
    refine SW.loopM TTok (fun M : List Int => [(0, .sl 1 (irows .i32 M) false)]) (fun M => []) 80 32 rfl (fun M => M.length) (fun M => stripE M = stripE (L.dropWhile blank) ∧ M.length ≤ L.length) [] [] ⟨by rw [← hM]; rfl, hle⟩
      ⟨⟨rfl, rfl⟩, trivial⟩ trivial rfl ?_
    intro N hJ
    have hN1 : stripE N = stripE (L.dropWhile blank) := hJ.1
    have hN2 : N.length ≤ L.length := hJ.2
    clear hJ
    have hlN := irows_len .i32 N
    have eN : IntKind.i64.wrap (((irows .i32 N).length : Int) - 1) = (N.length : Int) - 1 := by rw [IntWalk.i64_in _ (by omega)]; omega
    by_cases h0 : N = []
    · rw [← hN1, h0]
      repeat
        conv => whnf
        first
          | refine ⟨_, by assumption, ?_⟩
          | refine ⟨(Nat.le_of_ble_eq_true rfl), _, by assumption, ?_⟩
          | refine ⟨by kernel_rfl, ?_⟩
          | exact rfl
          | exact ⟨Nat.le_of_ble_eq_true rfl, rfl⟩
          | refine ⟨by decide, ?_⟩
          | refine caseb (fun _ => ?_) (fun h => absurd (of_decide_eq_false h) (by omega))
          | refine caseb (fun h => absurd (of_decide_eq_true h) (by omega)) (fun _ => ?_)
          | refine caseb (fun _ => ?_) (fun h => absurd (beq_eq_false_iff_ne.1 h) (by omega))
          | refine caseb (fun h => absurd (eq_of_beq h) (by omega)) (fun _ => ?_)
    · have hp : 0 < N.length := Nat.pos_of_ne_zero (fun h => h0 (List.length_eq_zero_iff.1 h))
      have hlt : N.length - 1 < N.length := by omega
      have hg := irows_get .i32 N (List.getElem?_eq_getElem hlt)
      have hz := stripE_last N hlt
      generalize hz' : N[N.length - 1] = z at *
      conv => whnf
      first
        | refine caseb (fun _ => ?_) (fun h => absurd (of_decide_eq_false h) (by omega))
        | refine caseb (fun h => absurd (of_decide_eq_true h) (by omega)) (fun _ => ?_)
        | refine caseb (fun _ => ?_) (fun h => absurd (beq_eq_false_iff_ne.1 h) (by omega))
        | refine caseb (fun h => absurd (eq_of_beq h) (by omega)) (fun _ => ?_)
      conv => whnf
      refine ⟨_, ⟨by omega, by rw [eN, show ((N.length : Int) - 1).toNat = N.length - 1 by omega]; exact hg⟩, ?_⟩
      by_cases hb : z = 32
      · rw [if_pos hb] at hz
        conv => whnf
        first
          | refine caseb (fun _ => ?_) (fun h => absurd (of_decide_eq_false h) (by omega))
          | refine caseb (fun h => absurd (of_decide_eq_true h) (by omega)) (fun _ => ?_)
          | refine caseb (fun _ => ?_) (fun h => absurd (beq_eq_false_iff_ne.1 h) (by omega))
          | refine caseb (fun h => absurd (eq_of_beq h) (by omega)) (fun _ => ?_)
        conv => whnf
        refine ⟨⟨by omega, by omega⟩, ?_⟩
        conv => whnf
        refine ⟨N.take (N.length - 1), [], (by show (N.take (N.length - 1)).length < N.length; rw [List.length_take]; omega), ⟨by rw [← hz]; exact hN1, by rw [List.length_take]; omega⟩, ⟨⟨slE ?_, rfl⟩, trivial⟩, trivial, rfl⟩
        show ((irows .i32 N).take (IntKind.i64.wrap (((irows .i32 N).length : Int) - 1)).toNat).drop 0 = _
        rw [eN, show ((N.length : Int) - 1).toNat = N.length - 1 by omega, List.drop_zero, irows_take]
      · rw [if_neg hb] at hz
        rw [← hN1, hz]
        conv => whnf
        first
          | refine caseb (fun _ => ?_) (fun h => absurd (of_decide_eq_false h) (by omega))
          | refine caseb (fun h => absurd (of_decide_eq_true h) (by omega)) (fun _ => ?_)
          | refine caseb (fun _ => ?_) (fun h => absurd (beq_eq_false_iff_ne.1 h) (by omega))
          | refine caseb (fun h => absurd (eq_of_beq h) (by omega)) (fun _ => ?_)
        conv => whnf
        exact rfl
  | cons a M =>
    have hlen := irows_len .i32 (a :: M)
    have hl1 : (a :: M).length = M.length + 1 := rfl
    conv => whnf
    first
      | refine caseb (fun _ => ?_) (fun h => absurd (of_decide_eq_false h) (by omega))
      | refine caseb (fun h => absurd (of_decide_eq_true h) (by omega)) (fun _ => ?_)
      | refine caseb (fun _ => ?_) (fun h => absurd (beq_eq_false_iff_ne.1 h) (by omega))
      | refine caseb (fun h => absurd (eq_of_beq h) (by omega)) (fun _ => ?_)
      | skip
    conv => whnf
    refine ⟨_, ⟨by omega, irows_get .i32 (a :: M) (x := a) rfl⟩, ?_⟩
    by_cases ha : a = 32
    · conv => whnf
      first
        | refine caseb (fun _ => ?_) (fun h => absurd (of_decide_eq_false h) (by omega))
        | refine caseb (fun h => absurd (of_decide_eq_true h) (by omega)) (fun _ => ?_)
        | refine caseb (fun _ => ?_) (fun h => absurd (beq_eq_false_iff_ne.1 h) (by omega))
        | refine caseb (fun h => absurd (eq_of_beq h) (by omega)) (fun _ => ?_)
      conv => whnf
      refine ⟨⟨by omega, by omega⟩, ?_⟩
      conv => whnf
      refine ⟨M, [], (by show M.length < (a :: M).length; omega), ⟨by rw [← hM, List.dropWhile_cons, if_pos (by rw [ha]; rfl)], by omega⟩, ⟨⟨slE ?_, rfl⟩, trivial⟩, trivial, rfl⟩
      show ((irows .i32 (a :: M)).take (irows .i32 (a :: M)).length).drop 1 = _
      rw [List.take_of_length_le (Nat.le_refl _), irows_drop]; rfl
    · conv => whnf
      first
        | refine caseb (fun _ => ?_) (fun h => absurd (of_decide_eq_false h) (by omega))
        | refine caseb (fun h => absurd (of_decide_eq_true h) (by omega)) (fun _ => ?_)
        | refine caseb (fun _ => ?_) (fun h => absurd (beq_eq_false_iff_ne.1 h) (by omega))
        | refine caseb (fun h => absurd (eq_of_beq h) (by omega)) (fun _ => ?_)
      conv => whnf
      refine SW.loopM TTok (fun M : List Int => [(0, .sl 1 (irows .i32 M) false)]) (fun M => []) 80 32 rfl (fun M => M.length) (fun M => stripE M = stripE (L.dropWhile blank) ∧ M.length ≤ L.length) (a :: M) [] ⟨by rw [← hM, List.dropWhile_cons, if_neg (by unfold blank; rw [beq_false_of_ne ha]; decide)], hle⟩
        ⟨⟨rfl, rfl⟩, trivial⟩ trivial rfl ?_
      intro N hJ
      have hN1 : stripE N = stripE (L.dropWhile blank) := hJ.1
      have hN2 : N.length ≤ L.length := hJ.2
      clear hJ
      have hlN := irows_len .i32 N
      have eN : IntKind.i64.wrap (((irows .i32 N).length : Int) - 1) = (N.length : Int) - 1 := by rw [IntWalk.i64_in _ (by omega)]; omega
      by_cases h0 : N = []
      · rw [← hN1, h0]
        repeat
          conv => whnf
          first
            | refine ⟨_, by assumption, ?_⟩
            | refine ⟨(Nat.le_of_ble_eq_true rfl), _, by assumption, ?_⟩
            | refine ⟨by kernel_rfl, ?_⟩
            | exact rfl
            | exact ⟨Nat.le_of_ble_eq_true rfl, rfl⟩
            | refine ⟨by decide, ?_⟩
            | refine caseb (fun _ => ?_) (fun h => absurd (of_decide_eq_false h) (by omega))
            | refine caseb (fun h => absurd (of_decide_eq_true h) (by omega)) (fun _ => ?_)
            | refine caseb (fun _ => ?_) (fun h => absurd (beq_eq_false_iff_ne.1 h) (by omega))
            | refine caseb (fun h => absurd (eq_of_beq h) (by omega)) (fun _ => ?_)
      · have hp : 0 < N.length := Nat.pos_of_ne_zero (fun h => h0 (List.length_eq_zero_iff.1 h))
        have hlt : N.length - 1 < N.length := by omega
        have hg := irows_get .i32 N (List.getElem?_eq_getElem hlt)
        have hz := stripE_last N hlt
        generalize hz' : N[N.length - 1] = z at *
        conv => whnf
        first
          | refine caseb (fun _ => ?_) (fun h => absurd (of_decide_eq_false h) (by omega))
          | refine caseb (fun h => absurd (of_decide_eq_true h) (by omega)) (fun _ => ?_)
          | refine caseb (fun _ => ?_) (fun h => absurd (beq_eq_false_iff_ne.1 h) (by omega))
          | refine caseb (fun h => absurd (eq_of_beq h) (by omega)) (fun _ => ?_)
        conv => whnf
        refine ⟨_, ⟨by omega, by rw [eN, show ((N.length : Int) - 1).toNat = N.length - 1 by omega]; exact hg⟩, ?_⟩
        by_cases hb : z = 32
        · rw [if_pos hb] at hz
          conv => whnf
          first
            | refine caseb (fun _ => ?_) (fun h => absurd (of_decide_eq_false h) (by omega))
            | refine caseb (fun h => absurd (of_decide_eq_true h) (by omega)) (fun _ => ?_)
            | refine caseb (fun _ => ?_) (fun h => absurd (beq_eq_false_iff_ne.1 h) (by omega))
            | refine caseb (fun h => absurd (eq_of_beq h) (by omega)) (fun _ => ?_)
          conv => whnf
          refine ⟨⟨by omega, by omega⟩, ?_⟩
          conv => whnf
          refine ⟨N.take (N.length - 1), [], (by show (N.take (N.length - 1)).length < N.length; rw [List.length_take]; omega), ⟨by rw [← hz]; exact hN1, by rw [List.length_take]; omega⟩, ⟨⟨slE ?_, rfl⟩, trivial⟩, trivial, rfl⟩
          show ((irows .i32 N).take (IntKind.i64.wrap (((irows .i32 N).length : Int) - 1)).toNat).drop 0 = _
          rw [eN, show ((N.length : Int) - 1).toNat = N.length - 1 by omega, List.drop_zero, irows_take]
        · rw [if_neg hb] at hz
          rw [← hN1, hz]
          conv => whnf
          first
            | refine caseb (fun _ => ?_) (fun h => absurd (of_decide_eq_false h) (by omega))
            | refine caseb (fun h => absurd (of_decide_eq_true h) (by omega)) (fun _ => ?_)
            | refine caseb (fun _ => ?_) (fun h => absurd (beq_eq_false_iff_ne.1 h) (by omega))
            | refine caseb (fun h => absurd (eq_of_beq h) (by omega)) (fun _ => ?_)
          conv => whnf
          exact rfl

def isL (L : List Int) : Bool :=
  match L.dropWhile blank with
  | [] => false
  | a :: _ => a == 41
theorem dropWhile_head {L l : List Int} {a : Int} (h : L.dropWhile blank = a :: l) : a ≠ 32 := by
  intro e
  have := List.head?_dropWhile_not blank L
  rw [h] at this
  simp [blank, e] at this
theorem dropWhile_le (L : List Int) : (L.dropWhile blank).length ≤ L.length := (List.dropWhile_sublist _).length_le
theorem Is_ok (L : List Int) (hb : L.length < 1000000000) : AC Try.prog 12 [.sl 1 (irows .i32 L) false] (.pure (.val (.bool (isL L)))) := by
  refine AC.of_body TTok Try.func12 rfl (enter_of Try.func12 (by kernel_rfl) (by kernel_rfl)) (noid1 (slI_noid _ _ _)) (.val _) (Nat.le_of_ble_eq_true rfl) ?_
  have hT := Trim_ok L hb
  unfold isL
  cases hD : L.dropWhile blank with
  | nil =>
    rw [hD] at hT
    rw [show stripE [] = [] from rfl] at hT
    repeat
      conv => whnf
      first
        | refine ⟨_, by assumption, ?_⟩
        | refine ⟨(Nat.le_of_ble_eq_true rfl), _, by assumption, ?_⟩
        | refine ⟨by kernel_rfl, ?_⟩
        | exact rfl
        | exact ⟨Nat.le_of_ble_eq_true rfl, rfl⟩
        | refine ⟨by decide, ?_⟩
        | refine caseb (fun _ => ?_) (fun h => absurd (of_decide_eq_false h) (by omega))
        | refine caseb (fun h => absurd (of_decide_eq_true h) (by omega)) (fun _ => ?_)
        | refine caseb (fun _ => ?_) (fun h => absurd (beq_eq_false_iff_ne.1 h) (by omega))
        | refine caseb (fun h => absurd (eq_of_beq h) (by omega)) (fun _ => ?_)
  | cons a l =>
    rw [hD] at hT
    obtain ⟨l', hl'⟩ := stripE_head a (dropWhile_head hD) l.length l (Nat.le_refl _)
    rw [hl'] at hT
    have hlen := irows_len .i32 (a :: l')
    have hl1 : (a :: l').length = l'.length + 1 := rfl
    conv => whnf
    refine ⟨_, hT, ?_⟩
    conv => whnf
    first
      | refine caseb (fun _ => ?_) (fun h => absurd (of_decide_eq_false h) (by omega))
      | refine caseb (fun h => absurd (of_decide_eq_true h) (by omega)) (fun _ => ?_)
      | refine caseb (fun _ => ?_) (fun h => absurd (beq_eq_false_iff_ne.1 h) (by omega))
      | refine caseb (fun h => absurd (eq_of_beq h) (by omega)) (fun _ => ?_)
      | skip
    conv => whnf
    refine ⟨_, ⟨by omega, irows_get .i32 (a :: l') (x := a) rfl⟩, ?_⟩
    conv => whnf
    exact rfl
theorem RIs_ok (L : List Int) (hb : L.length < 1000000000) : AC Try.prog 13 [.sl 1 (irows .i32 L) false] (.pure (.val (.bool (isL L)))) := by
  refine AC.of_body TTok Try.func13 rfl (enter_of Try.func13 (by kernel_rfl) (by kernel_rfl)) (noid1 (slI_noid _ _ _)) (.val _) (Nat.le_of_ble_eq_true rfl) ?_
  have hlen := irows_len .i32 L
  conv => whnf
  refine SW.loopM TTok (fun i : Nat => [(0, .sl 1 (irows .i32 L) false), (3, .val (.int .i64 (i : Int)))]) (fun i => []) 16 20 rfl (fun i => L.length - i) (fun i => i ≤ L.length ∧ (L.drop i).dropWhile blank = L.dropWhile blank) 0 [] ⟨Nat.zero_le _, rfl⟩
    ⟨⟨rfl, rfl⟩, ⟨rfl, rfl⟩, trivial⟩ trivial rfl ?_
  intro i hJ
  have hi : i ≤ L.length := hJ.1
  have hn2 : (L.drop i).dropWhile blank = L.dropWhile blank := hJ.2
  clear hJ
  conv => whnf
  refine caseb (fun h1 => ?_) (fun h1 => ?_)
  · have h1' : (i : Int) < (irows .i32 L).length := of_decide_eq_true h1
    have hlt : i < L.length := by omega
    have hg := irows_get .i32 L (List.getElem?_eq_getElem hlt)
    rw [List.drop_eq_getElem_cons hlt, List.dropWhile_cons] at hn2
    generalize L[i] = z at *
    conv => whnf
    refine ⟨_, ⟨by omega, hg⟩, ?_⟩
    by_cases hz : z = 32
    · rw [if_pos (by rw [hz]; rfl)] at hn2
      conv => whnf
      first
        | refine caseb (fun h => absurd (bne_iff_ne.1 h) (by omega)) (fun _ => ?_)
        | refine caseb (fun _ => ?_) (fun h => absurd (bne_eq_false_iff_eq.1 h) (by omega))
      conv => whnf
      refine ⟨i + 1, [], (by show L.length - (i + 1) < L.length - i; omega), ⟨(by show i + 1 ≤ L.length; omega), hn2⟩, ⟨⟨rfl, rfl⟩, ⟨valI ?_, rfl⟩, trivial⟩, trivial, rfl⟩
      show IntKind.i64.wrap ((i : Int) + 1) = ((i + 1 : Nat) : Int)
      rw [IntWalk.i64_in _ (by omega)]; omega
    · rw [if_neg (by unfold blank; rw [beq_false_of_ne hz]; decide)] at hn2
      unfold isL
      rw [← hn2]
      conv => whnf
      first
        | refine caseb (fun h => absurd (bne_iff_ne.1 h) (by omega)) (fun _ => ?_)
        | refine caseb (fun _ => ?_) (fun h => absurd (bne_eq_false_iff_eq.1 h) (by omega))
      conv => whnf
      refine ⟨_, ⟨by omega, hg⟩, ?_⟩
      conv => whnf
      exact rfl
  · have h1' : ¬ (i : Int) < (irows .i32 L).length := of_decide_eq_false h1
    rw [List.drop_eq_nil_of_le (by omega)] at hn2
    unfold isL
    rw [← hn2]
    conv => whnf
    exact rfl

end Go.Proofs.Ytdlonboheckdoaa

/- Commands: their words. -/
set_option linter.unusedVariables false
namespace Go.Proofs.Ytdlonboheckdoaa
open Go Go.AL

/-- The commands' words, and how many names they take. -/
def rowsT : List (ByteArray × Int × Int) := [({ data := #[41, 67, 76, 69, 65, 82] }, 0, 0), ({ data := #[41, 83, 65, 86, 69] }, 0, 1), ({ data := #[41, 76, 79, 65, 68] }, 1, 1), ({ data := #[41, 67, 79, 80, 89] }, 1, 99), ({ data := #[41, 68, 82, 79, 80] }, 1, 1), ({ data := #[41, 76, 73, 66] }, 0, 0), ({ data := #[41, 70, 78, 83] }, 0, 0), ({ data := #[41, 86, 65, 82, 83] }, 0, 0), ({ data := #[41, 83, 73] }, 0, 0), ({ data := #[41, 83, 73, 78, 76] }, 0, 0), ({ data := #[41, 69, 82, 65, 83, 69] }, 1, 99), ({ data := #[41, 87, 83, 73, 68] }, 0, 1), ({ data := #[41, 82, 69, 83, 69, 84] }, 0, 0)]
def rowV (p : ByteArray × Int × Int) : List AV := [.val (.string p.1), .val (.int .i64 p.2.1), .val (.int .i64 p.2.2)]
/-- Which command a word is: the first row's one from k on. -/
def kindI : List (ByteArray × Int × Int) → Int → ByteArray → Int × Int × Int
  | [], _, _ => (0, 0, 0)
  | p :: l, k, s => if (s.toList == p.1.toList) = true then (k, p.2.1, p.2.2) else kindI l (k + 1) s
def kindV (q : Int × Int × Int) : AV := .tup [.val (.int .i64 q.1), .val (.int .i64 q.2.1), .val (.int .i64 q.2.2)]
theorem kindI_hit {p : ByteArray × Int × Int} {l : List (ByteArray × Int × Int)} {k : Int} {s : ByteArray} (h : (s.toList == p.1.toList) = true) : kindI (p :: l) k s = (k, p.2.1, p.2.2) := if_pos h
theorem kindI_miss {p : ByteArray × Int × Int} {l : List (ByteArray × Int × Int)} {k : Int} {s : ByteArray} (h : (s.toList == p.1.toList) = false) : kindI (p :: l) k s = kindI l (k + 1) s := if_neg (by rw [h]; decide)
theorem kind_ok (s : ByteArray) : AC Try.prog 17 [.val (.string s)] (.pure (kindV (kindI rowsT 1 s))) := by
  refine AC.of_body TTok Try.func17 rfl (enter_of Try.func17 (by kernel_rfl) (by kernel_rfl)) (noid1 (.val _)) (.tup _ (noid3 (.val _) (.val _) (.val _))) (Nat.le_of_ble_eq_true rfl) ?_
  unfold rowsT
  cases h1 : (s.toList == ({ data := #[41, 67, 76, 69, 65, 82] } : ByteArray).toList)
  rotate_left
  · rw [kindI_hit h1]
    conv => whnf
    refine caseb (fun _ => ?_) (fun h => Bool.noConfusion ((h1).symm.trans h))
    conv => whnf
    exact rfl
  rw [kindI_miss h1]
  cases h2 : (s.toList == ({ data := #[41, 83, 65, 86, 69] } : ByteArray).toList)
  rotate_left
  · rw [kindI_hit h2]
    conv => whnf
    refine caseb (fun h => Bool.noConfusion ((h1).symm.trans h)) (fun _ => ?_)
    conv => whnf
    refine caseb (fun _ => ?_) (fun h => Bool.noConfusion ((h2).symm.trans h))
    conv => whnf
    exact rfl
  rw [kindI_miss h2]
  cases h3 : (s.toList == ({ data := #[41, 76, 79, 65, 68] } : ByteArray).toList)
  rotate_left
  · rw [kindI_hit h3]
    conv => whnf
    refine caseb (fun h => Bool.noConfusion ((h1).symm.trans h)) (fun _ => ?_)
    conv => whnf
    refine caseb (fun h => Bool.noConfusion ((h2).symm.trans h)) (fun _ => ?_)
    conv => whnf
    refine caseb (fun _ => ?_) (fun h => Bool.noConfusion ((h3).symm.trans h))
    conv => whnf
    exact rfl
  rw [kindI_miss h3]
  cases h4 : (s.toList == ({ data := #[41, 67, 79, 80, 89] } : ByteArray).toList)
  rotate_left
  · rw [kindI_hit h4]
    conv => whnf
    refine caseb (fun h => Bool.noConfusion ((h1).symm.trans h)) (fun _ => ?_)
    conv => whnf
    refine caseb (fun h => Bool.noConfusion ((h2).symm.trans h)) (fun _ => ?_)
    conv => whnf
    refine caseb (fun h => Bool.noConfusion ((h3).symm.trans h)) (fun _ => ?_)
    conv => whnf
    refine caseb (fun _ => ?_) (fun h => Bool.noConfusion ((h4).symm.trans h))
    conv => whnf
    exact rfl
  rw [kindI_miss h4]
  cases h5 : (s.toList == ({ data := #[41, 68, 82, 79, 80] } : ByteArray).toList)
  rotate_left
  · rw [kindI_hit h5]
    conv => whnf
    refine caseb (fun h => Bool.noConfusion ((h1).symm.trans h)) (fun _ => ?_)
    conv => whnf
    refine caseb (fun h => Bool.noConfusion ((h2).symm.trans h)) (fun _ => ?_)
    conv => whnf
    refine caseb (fun h => Bool.noConfusion ((h3).symm.trans h)) (fun _ => ?_)
    conv => whnf
    refine caseb (fun h => Bool.noConfusion ((h4).symm.trans h)) (fun _ => ?_)
    conv => whnf
    refine caseb (fun _ => ?_) (fun h => Bool.noConfusion ((h5).symm.trans h))
    conv => whnf
    exact rfl
  rw [kindI_miss h5]
  cases h6 : (s.toList == ({ data := #[41, 76, 73, 66] } : ByteArray).toList)
  rotate_left
  · rw [kindI_hit h6]
    conv => whnf
    refine caseb (fun h => Bool.noConfusion ((h1).symm.trans h)) (fun _ => ?_)
    conv => whnf
    refine caseb (fun h => Bool.noConfusion ((h2).symm.trans h)) (fun _ => ?_)
    conv => whnf
    refine caseb (fun h => Bool.noConfusion ((h3).symm.trans h)) (fun _ => ?_)
    conv => whnf
    refine caseb (fun h => Bool.noConfusion ((h4).symm.trans h)) (fun _ => ?_)
    conv => whnf
    refine caseb (fun h => Bool.noConfusion ((h5).symm.trans h)) (fun _ => ?_)
    conv => whnf
    refine caseb (fun _ => ?_) (fun h => Bool.noConfusion ((h6).symm.trans h))
    conv => whnf
    exact rfl
  rw [kindI_miss h6]
  cases h7 : (s.toList == ({ data := #[41, 70, 78, 83] } : ByteArray).toList)
  rotate_left
  · rw [kindI_hit h7]
    conv => whnf
    refine caseb (fun h => Bool.noConfusion ((h1).symm.trans h)) (fun _ => ?_)
    conv => whnf
    refine caseb (fun h => Bool.noConfusion ((h2).symm.trans h)) (fun _ => ?_)
    conv => whnf
    refine caseb (fun h => Bool.noConfusion ((h3).symm.trans h)) (fun _ => ?_)
    conv => whnf
    refine caseb (fun h => Bool.noConfusion ((h4).symm.trans h)) (fun _ => ?_)
    conv => whnf
    refine caseb (fun h => Bool.noConfusion ((h5).symm.trans h)) (fun _ => ?_)
    conv => whnf
    refine caseb (fun h => Bool.noConfusion ((h6).symm.trans h)) (fun _ => ?_)
    conv => whnf
    refine caseb (fun _ => ?_) (fun h => Bool.noConfusion ((h7).symm.trans h))
    conv => whnf
    exact rfl
  rw [kindI_miss h7]
  cases h8 : (s.toList == ({ data := #[41, 86, 65, 82, 83] } : ByteArray).toList)
  rotate_left
  · rw [kindI_hit h8]
    conv => whnf
    refine caseb (fun h => Bool.noConfusion ((h1).symm.trans h)) (fun _ => ?_)
    conv => whnf
    refine caseb (fun h => Bool.noConfusion ((h2).symm.trans h)) (fun _ => ?_)
    conv => whnf
    refine caseb (fun h => Bool.noConfusion ((h3).symm.trans h)) (fun _ => ?_)
    conv => whnf
    refine caseb (fun h => Bool.noConfusion ((h4).symm.trans h)) (fun _ => ?_)
    conv => whnf
    refine caseb (fun h => Bool.noConfusion ((h5).symm.trans h)) (fun _ => ?_)
    conv => whnf
    refine caseb (fun h => Bool.noConfusion ((h6).symm.trans h)) (fun _ => ?_)
    conv => whnf
    refine caseb (fun h => Bool.noConfusion ((h7).symm.trans h)) (fun _ => ?_)
    conv => whnf
    refine caseb (fun _ => ?_) (fun h => Bool.noConfusion ((h8).symm.trans h))
    conv => whnf
    exact rfl
  rw [kindI_miss h8]
  cases h9 : (s.toList == ({ data := #[41, 83, 73] } : ByteArray).toList)
  rotate_left
  · rw [kindI_hit h9]
    conv => whnf
    refine caseb (fun h => Bool.noConfusion ((h1).symm.trans h)) (fun _ => ?_)
    conv => whnf
    refine caseb (fun h => Bool.noConfusion ((h2).symm.trans h)) (fun _ => ?_)
    conv => whnf
    refine caseb (fun h => Bool.noConfusion ((h3).symm.trans h)) (fun _ => ?_)
    conv => whnf
    refine caseb (fun h => Bool.noConfusion ((h4).symm.trans h)) (fun _ => ?_)
    conv => whnf
    refine caseb (fun h => Bool.noConfusion ((h5).symm.trans h)) (fun _ => ?_)
    conv => whnf
    refine caseb (fun h => Bool.noConfusion ((h6).symm.trans h)) (fun _ => ?_)
    conv => whnf
    refine caseb (fun h => Bool.noConfusion ((h7).symm.trans h)) (fun _ => ?_)
    conv => whnf
    refine caseb (fun h => Bool.noConfusion ((h8).symm.trans h)) (fun _ => ?_)
    conv => whnf
    refine caseb (fun _ => ?_) (fun h => Bool.noConfusion ((h9).symm.trans h))
    conv => whnf
    exact rfl
  rw [kindI_miss h9]
  cases h10 : (s.toList == ({ data := #[41, 83, 73, 78, 76] } : ByteArray).toList)
  rotate_left
  · rw [kindI_hit h10]
    conv => whnf
    refine caseb (fun h => Bool.noConfusion ((h1).symm.trans h)) (fun _ => ?_)
    conv => whnf
    refine caseb (fun h => Bool.noConfusion ((h2).symm.trans h)) (fun _ => ?_)
    conv => whnf
    refine caseb (fun h => Bool.noConfusion ((h3).symm.trans h)) (fun _ => ?_)
    conv => whnf
    refine caseb (fun h => Bool.noConfusion ((h4).symm.trans h)) (fun _ => ?_)
    conv => whnf
    refine caseb (fun h => Bool.noConfusion ((h5).symm.trans h)) (fun _ => ?_)
    conv => whnf
    refine caseb (fun h => Bool.noConfusion ((h6).symm.trans h)) (fun _ => ?_)
    conv => whnf
    refine caseb (fun h => Bool.noConfusion ((h7).symm.trans h)) (fun _ => ?_)
    conv => whnf
    refine caseb (fun h => Bool.noConfusion ((h8).symm.trans h)) (fun _ => ?_)
    conv => whnf
    refine caseb (fun h => Bool.noConfusion ((h9).symm.trans h)) (fun _ => ?_)
    conv => whnf
    refine caseb (fun _ => ?_) (fun h => Bool.noConfusion ((h10).symm.trans h))
    conv => whnf
    exact rfl
  rw [kindI_miss h10]
  cases h11 : (s.toList == ({ data := #[41, 69, 82, 65, 83, 69] } : ByteArray).toList)
  rotate_left
  · rw [kindI_hit h11]
    conv => whnf
    refine caseb (fun h => Bool.noConfusion ((h1).symm.trans h)) (fun _ => ?_)
    conv => whnf
    refine caseb (fun h => Bool.noConfusion ((h2).symm.trans h)) (fun _ => ?_)
    conv => whnf
    refine caseb (fun h => Bool.noConfusion ((h3).symm.trans h)) (fun _ => ?_)
    conv => whnf
    refine caseb (fun h => Bool.noConfusion ((h4).symm.trans h)) (fun _ => ?_)
    conv => whnf
    refine caseb (fun h => Bool.noConfusion ((h5).symm.trans h)) (fun _ => ?_)
    conv => whnf
    refine caseb (fun h => Bool.noConfusion ((h6).symm.trans h)) (fun _ => ?_)
    conv => whnf
    refine caseb (fun h => Bool.noConfusion ((h7).symm.trans h)) (fun _ => ?_)
    conv => whnf
    refine caseb (fun h => Bool.noConfusion ((h8).symm.trans h)) (fun _ => ?_)
    conv => whnf
    refine caseb (fun h => Bool.noConfusion ((h9).symm.trans h)) (fun _ => ?_)
    conv => whnf
    refine caseb (fun h => Bool.noConfusion ((h10).symm.trans h)) (fun _ => ?_)
    conv => whnf
    refine caseb (fun _ => ?_) (fun h => Bool.noConfusion ((h11).symm.trans h))
    conv => whnf
    exact rfl
  rw [kindI_miss h11]
  cases h12 : (s.toList == ({ data := #[41, 87, 83, 73, 68] } : ByteArray).toList)
  rotate_left
  · rw [kindI_hit h12]
    conv => whnf
    refine caseb (fun h => Bool.noConfusion ((h1).symm.trans h)) (fun _ => ?_)
    conv => whnf
    refine caseb (fun h => Bool.noConfusion ((h2).symm.trans h)) (fun _ => ?_)
    conv => whnf
    refine caseb (fun h => Bool.noConfusion ((h3).symm.trans h)) (fun _ => ?_)
    conv => whnf
    refine caseb (fun h => Bool.noConfusion ((h4).symm.trans h)) (fun _ => ?_)
    conv => whnf
    refine caseb (fun h => Bool.noConfusion ((h5).symm.trans h)) (fun _ => ?_)
    conv => whnf
    refine caseb (fun h => Bool.noConfusion ((h6).symm.trans h)) (fun _ => ?_)
    conv => whnf
    refine caseb (fun h => Bool.noConfusion ((h7).symm.trans h)) (fun _ => ?_)
    conv => whnf
    refine caseb (fun h => Bool.noConfusion ((h8).symm.trans h)) (fun _ => ?_)
    conv => whnf
    refine caseb (fun h => Bool.noConfusion ((h9).symm.trans h)) (fun _ => ?_)
    conv => whnf
    refine caseb (fun h => Bool.noConfusion ((h10).symm.trans h)) (fun _ => ?_)
    conv => whnf
    refine caseb (fun h => Bool.noConfusion ((h11).symm.trans h)) (fun _ => ?_)
    conv => whnf
    refine caseb (fun _ => ?_) (fun h => Bool.noConfusion ((h12).symm.trans h))
    conv => whnf
    exact rfl
  rw [kindI_miss h12]
  cases h13 : (s.toList == ({ data := #[41, 82, 69, 83, 69, 84] } : ByteArray).toList)
  rotate_left
  · rw [kindI_hit h13]
    conv => whnf
    refine caseb (fun h => Bool.noConfusion ((h1).symm.trans h)) (fun _ => ?_)
    conv => whnf
    refine caseb (fun h => Bool.noConfusion ((h2).symm.trans h)) (fun _ => ?_)
    conv => whnf
    refine caseb (fun h => Bool.noConfusion ((h3).symm.trans h)) (fun _ => ?_)
    conv => whnf
    refine caseb (fun h => Bool.noConfusion ((h4).symm.trans h)) (fun _ => ?_)
    conv => whnf
    refine caseb (fun h => Bool.noConfusion ((h5).symm.trans h)) (fun _ => ?_)
    conv => whnf
    refine caseb (fun h => Bool.noConfusion ((h6).symm.trans h)) (fun _ => ?_)
    conv => whnf
    refine caseb (fun h => Bool.noConfusion ((h7).symm.trans h)) (fun _ => ?_)
    conv => whnf
    refine caseb (fun h => Bool.noConfusion ((h8).symm.trans h)) (fun _ => ?_)
    conv => whnf
    refine caseb (fun h => Bool.noConfusion ((h9).symm.trans h)) (fun _ => ?_)
    conv => whnf
    refine caseb (fun h => Bool.noConfusion ((h10).symm.trans h)) (fun _ => ?_)
    conv => whnf
    refine caseb (fun h => Bool.noConfusion ((h11).symm.trans h)) (fun _ => ?_)
    conv => whnf
    refine caseb (fun h => Bool.noConfusion ((h12).symm.trans h)) (fun _ => ?_)
    conv => whnf
    refine caseb (fun _ => ?_) (fun h => Bool.noConfusion ((h13).symm.trans h))
    conv => whnf
    exact rfl
  rw [kindI_miss h13]
  conv => whnf
  refine caseb (fun h => Bool.noConfusion ((h1).symm.trans h)) (fun _ => ?_)
  conv => whnf
  refine caseb (fun h => Bool.noConfusion ((h2).symm.trans h)) (fun _ => ?_)
  conv => whnf
  refine caseb (fun h => Bool.noConfusion ((h3).symm.trans h)) (fun _ => ?_)
  conv => whnf
  refine caseb (fun h => Bool.noConfusion ((h4).symm.trans h)) (fun _ => ?_)
  conv => whnf
  refine caseb (fun h => Bool.noConfusion ((h5).symm.trans h)) (fun _ => ?_)
  conv => whnf
  refine caseb (fun h => Bool.noConfusion ((h6).symm.trans h)) (fun _ => ?_)
  conv => whnf
  refine caseb (fun h => Bool.noConfusion ((h7).symm.trans h)) (fun _ => ?_)
  conv => whnf
  refine caseb (fun h => Bool.noConfusion ((h8).symm.trans h)) (fun _ => ?_)
  conv => whnf
  refine caseb (fun h => Bool.noConfusion ((h9).symm.trans h)) (fun _ => ?_)
  conv => whnf
  refine caseb (fun h => Bool.noConfusion ((h10).symm.trans h)) (fun _ => ?_)
  conv => whnf
  refine caseb (fun h => Bool.noConfusion ((h11).symm.trans h)) (fun _ => ?_)
  conv => whnf
  refine caseb (fun h => Bool.noConfusion ((h12).symm.trans h)) (fun _ => ?_)
  conv => whnf
  refine caseb (fun h => Bool.noConfusion ((h13).symm.trans h)) (fun _ => ?_)
  conv => whnf
  exact rfl
theorem rowsV_noid (l : List (ByteArray × Int × Int)) : ∀ r ∈ l.map rowV, ∀ x ∈ r, NoId x := by
  intro r hr x hx
  obtain ⟨n, _, rfl⟩ := List.mem_map.1 hr
  exact noid3 (.val _) (.val _) (.val _) x hx
theorem Rows_ok : AC Try.prog 6 [] (.pure (.sl 3 (rowsT.map rowV) false)) := by
  refine AC.of_body TTok Try.func6 rfl (enter_of Try.func6 (by kernel_rfl) (by kernel_rfl)) (by intro x hx; cases hx) (.sl _ _ _ (rowsV_noid _)) (Nat.le_of_ble_eq_true rfl) ?_
  repeat
    conv => whnf
    first
      | refine ⟨_, by assumption, ?_⟩
      | refine ⟨(Nat.le_of_ble_eq_true rfl), _, by assumption, ?_⟩
      | refine ⟨by kernel_rfl, ?_⟩
      | exact rfl
      | exact ⟨Nat.le_of_ble_eq_true rfl, rfl⟩
      | refine ⟨by decide, ?_⟩
theorem rowsT_len : rowsT.length = 13 := rfl
theorem rows_get {i : Nat} {p : ByteArray × Int × Int} (h : rowsT[i]? = some p) : (rowsT.map rowV)[i]? = some (rowV p) := by
  rw [List.getElem?_map, h]; rfl

theorem str_self (s : ByteArray) : (s.toList == s.toList) = true := beq_self_eq_true _
theorem Texts_ok (A : List ByteArray) (hb : A.length < 1000000000) : AC Try.prog 9 [.sl 1 (srows A) false, .sl 1 (srows A) false] (.pure (.val (.bool true))) := by
  refine AC.of_body TTok Try.func9 rfl (enter_of Try.func9 (by kernel_rfl) (by kernel_rfl)) (noid2 (slS_noid _ _) (slS_noid _ _)) (.val _) (Nat.le_of_ble_eq_true rfl) ?_
  have hlen := srows_len A
  have f0 : (!(((srows A).length : Int) == ((srows A).length : Int))) = false := by rw [beq_self_eq_true]; rfl
  conv => whnf
  refine caseb (fun h => Bool.noConfusion ((f0).symm.trans h)) (fun _ => ?_)
  conv => whnf
  refine SW.loopM TTok (fun i : Nat => [(0, .sl 1 (srows A) false), (1, .sl 1 (srows A) false), (5, .val (.int .i64 (i : Int)))]) (fun i => []) 56 26 rfl (fun i => A.length - i) (fun i => i ≤ A.length) 0 [] (Nat.zero_le _)
    ⟨⟨rfl, rfl⟩, ⟨rfl, rfl⟩, ⟨rfl, rfl⟩, trivial⟩ trivial rfl ?_
  intro i hi
  have hi : i ≤ A.length := hi
  conv => whnf
  refine caseb (fun h1 => ?_) (fun h1 => ?_)
  · have h1' : (i : Int) < (srows A).length := of_decide_eq_true h1
    have hlt : i < A.length := by omega
    have hg := srows_get A (List.getElem?_eq_getElem hlt)
    have f1 : (!(A[i].toList == A[i].toList)) = false := by rw [str_self]; rfl
    conv => whnf
    refine ⟨_, ⟨by omega, hg⟩, ?_⟩
    conv => whnf
    refine ⟨_, ⟨by omega, hg⟩, ?_⟩
    conv => whnf
    refine ⟨by kernel_rfl, ?_⟩
    conv => whnf
    refine caseb (fun h => Bool.noConfusion ((f1).symm.trans h)) (fun _ => ?_)
    conv => whnf
    refine ⟨i + 1, [], (by show A.length - (i + 1) < A.length - i; omega), (by show i + 1 ≤ A.length; omega), ⟨⟨rfl, rfl⟩, ⟨rfl, rfl⟩, ⟨valI ?_, rfl⟩, trivial⟩, trivial, rfl⟩
    show IntKind.i64.wrap ((i : Int) + 1) = ((i + 1 : Nat) : Int)
    rw [IntWalk.i64_in _ (by omega)]; omega
  · conv => whnf
    exact rfl
theorem Texts_nil : AC Try.prog 9 [.sl 0 [] true, .sl 0 [] true] (.pure (.val (.bool true))) :=
  AC.le_args (Texts_ok [] (by decide)) rfl (fun i x y hx hy => by
    match i with
    | 0 => injection hx with hx; injection hy with hy; subst hx; subst hy; exact .sl _ _ _
    | 1 => injection hx with hx; injection hy with hy; subst hx; subst hy; exact .sl _ _ _
    | k + 2 => cases hx) (noid2 (.sl _ _ _ (fun r hr => by cases hr)) (.sl _ _ _ (fun r hr => by cases hr)))

end Go.Proofs.Ytdlonboheckdoaa

/- Commands: reading a line. -/
set_option linter.unusedVariables false
namespace Go.Proofs.Ytdlonboheckdoaa
open Go Go.AL

theorem runesL_len (s : ByteArray) : ∀ f i, (runesL s f i).length ≤ f
  | 0, _ => Nat.le_refl _
  | f + 1, i => by
    unfold runesL
    split
    · exact Nat.succ_le_succ (runesL_len s f _)
    · exact Nat.zero_le _
theorem runes_len (s : ByteArray) : (runes s).length ≤ s.size := runesL_len s _ _
/-- Which command words are, and its names. -/
def parseO : List ByteArray → Option (Int × List ByteArray)
  | [] => none
  | w :: N => if (kindI rowsT 1 w).1 = 0 ∨ (N.length : Int) < (kindI rowsT 1 w).2.1 ∨ (N.length : Int) > (kindI rowsT 1 w).2.2 then none
    else if N.all (fun s => nameL (runes s)) then some ((kindI rowsT 1 w).1, N) else none
def orderV : Option (Int × List ByteArray) → AV
  | none => .tup [.agg [.val (.int .i64 0), .sl 0 [] true], .val (.bool false)]
  | some (k, N) => .tup [.agg [.val (.int .i64 k), .sl 1 (srows N) false], .val (.bool true)]
def rorderV : Option (Int × List ByteArray) → AV
  | none => .tup [.val (.int .i64 0), .sl 0 [] true, .val (.bool false)]
  | some (k, N) => .tup [.val (.int .i64 k), .sl 1 (srows N) false, .val (.bool true)]
theorem nil_noid : NoId (.sl 0 [] true) := .sl _ _ _ (fun r hr => by cases hr)
theorem orderV_noid (o : Option (Int × List ByteArray)) : NoId (orderV o) := by
  match o with
  | none => exact .tup _ (noid2 (.agg _ (noid2 (.val _) nil_noid)) (.val _))
  | some (k, N) => exact .tup _ (noid2 (.agg _ (noid2 (.val _) (slS_noid _ _))) (.val _))
theorem rorderV_noid (o : Option (Int × List ByteArray)) : NoId (rorderV o) := by
  match o with
  | none => exact .tup _ (noid3 (.val _) nil_noid (.val _))
  | some (k, N) => exact .tup _ (noid3 (.val _) (slS_noid _ _) (.val _))

theorem Parse_ok (L : List Int) (hb : L.length < 1000000) (hw : (wordsL L).length < 1000000) (hs : ∀ s ∈ wordsL L, s.size < 1000000) : AC Try.prog 8 [.sl 1 (irows .i32 L) false] (.pure (orderV (parseO (wordsL L)))) := by
  refine AC.of_body TTok Try.func8 rfl (enter_of Try.func8 (by kernel_rfl) (by kernel_rfl)) (noid1 (slI_noid _ _ _)) (orderV_noid _) (Nat.le_of_ble_eq_true rfl) ?_
  have hW := Words_ok L (by omega)
  generalize wordsL L = W at *
  cases W with
  | nil =>
    repeat
      conv => whnf
      first
        | refine ⟨_, by assumption, ?_⟩
        | refine ⟨(Nat.le_of_ble_eq_true rfl), _, by assumption, ?_⟩
        | refine ⟨by kernel_rfl, ?_⟩
        | exact rfl
        | exact ⟨Nat.le_of_ble_eq_true rfl, rfl⟩
        | refine ⟨by decide, ?_⟩
        | refine caseb (fun _ => ?_) (fun h => absurd (of_decide_eq_false h) (by omega))
        | refine caseb (fun h => absurd (of_decide_eq_true h) (by omega)) (fun _ => ?_)
        | refine caseb (fun _ => ?_) (fun h => absurd (beq_eq_false_iff_ne.1 h) (by omega))
        | refine caseb (fun h => absurd (eq_of_beq h) (by omega)) (fun _ => ?_)
  | cons w N =>
  have hK := kind_ok w
  have hlW := srows_len (w :: N)
  have hl1 : (w :: N).length = N.length + 1 := rfl
  have hp : parseO (w :: N) = if (kindI rowsT 1 w).1 = 0 ∨ (N.length : Int) < (kindI rowsT 1 w).2.1 ∨ (N.length : Int) > (kindI rowsT 1 w).2.2 then none else if N.all (fun s => nameL (runes s)) then some ((kindI rowsT 1 w).1, N) else none := rfl
  unfold kindV at hK
  generalize kindI rowsT 1 w = q at *
  obtain ⟨k, a, b⟩ := q
  simp only at hK hp
  generalize parseO (w :: N) = po at *
  conv => whnf
  refine ⟨_, hW, ?_⟩
  conv => whnf
  first
    | refine caseb (fun _ => ?_) (fun h => absurd (of_decide_eq_false h) (by omega))
    | refine caseb (fun h => absurd (of_decide_eq_true h) (by omega)) (fun _ => ?_)
    | refine caseb (fun _ => ?_) (fun h => absurd (beq_eq_false_iff_ne.1 h) (by omega))
    | refine caseb (fun h => absurd (eq_of_beq h) (by omega)) (fun _ => ?_)
    | skip
  conv => whnf
  refine ⟨_, ⟨by omega, srows_get (w :: N) (x := w) rfl⟩, ?_⟩
  conv => whnf
  refine ⟨_, hK, ?_⟩
  conv => whnf
  refine ⟨⟨by omega, by omega⟩, ?_⟩
  conv => whnf
  generalize hR : List.drop (Int.toNat 1) (List.take (srows (w :: N)).length (srows (w :: N))) = R at *
  have hR' : R = srows N := by
    rw [← hR, List.take_of_length_le (Nat.le_refl _)]; rfl
  subst hR'
  clear hR
  have hlN := srows_len N
  by_cases g1 : k = 0
  · rw [if_pos (.inl g1)] at hp
    rw [hp]
    repeat
      conv => whnf
      first
        | refine ⟨_, by assumption, ?_⟩
        | refine ⟨(Nat.le_of_ble_eq_true rfl), _, by assumption, ?_⟩
        | refine ⟨by kernel_rfl, ?_⟩
        | exact rfl
        | exact ⟨Nat.le_of_ble_eq_true rfl, rfl⟩
        | refine ⟨by decide, ?_⟩
        | refine caseb (fun _ => ?_) (fun h => absurd (of_decide_eq_false h) (by omega))
        | refine caseb (fun h => absurd (of_decide_eq_true h) (by omega)) (fun _ => ?_)
        | refine caseb (fun _ => ?_) (fun h => absurd (beq_eq_false_iff_ne.1 h) (by omega))
        | refine caseb (fun h => absurd (eq_of_beq h) (by omega)) (fun _ => ?_)
  by_cases g2 : (N.length : Int) < a
  · rw [if_pos (.inr (.inl g2))] at hp
    rw [hp]
    repeat
      conv => whnf
      first
        | refine ⟨_, by assumption, ?_⟩
        | refine ⟨(Nat.le_of_ble_eq_true rfl), _, by assumption, ?_⟩
        | refine ⟨by kernel_rfl, ?_⟩
        | exact rfl
        | exact ⟨Nat.le_of_ble_eq_true rfl, rfl⟩
        | refine ⟨by decide, ?_⟩
        | refine caseb (fun _ => ?_) (fun h => absurd (of_decide_eq_false h) (by omega))
        | refine caseb (fun h => absurd (of_decide_eq_true h) (by omega)) (fun _ => ?_)
        | refine caseb (fun _ => ?_) (fun h => absurd (beq_eq_false_iff_ne.1 h) (by omega))
        | refine caseb (fun h => absurd (eq_of_beq h) (by omega)) (fun _ => ?_)
  by_cases g3 : (N.length : Int) > b
  · rw [if_pos (.inr (.inr g3))] at hp
    rw [hp]
    repeat
      conv => whnf
      first
        | refine ⟨_, by assumption, ?_⟩
        | refine ⟨(Nat.le_of_ble_eq_true rfl), _, by assumption, ?_⟩
        | refine ⟨by kernel_rfl, ?_⟩
        | exact rfl
        | exact ⟨Nat.le_of_ble_eq_true rfl, rfl⟩
        | refine ⟨by decide, ?_⟩
        | refine caseb (fun _ => ?_) (fun h => absurd (of_decide_eq_false h) (by omega))
        | refine caseb (fun h => absurd (of_decide_eq_true h) (by omega)) (fun _ => ?_)
        | refine caseb (fun _ => ?_) (fun h => absurd (beq_eq_false_iff_ne.1 h) (by omega))
        | refine caseb (fun h => absurd (eq_of_beq h) (by omega)) (fun _ => ?_)
  rw [if_neg (by omega)] at hp
  conv => whnf
  first
    | refine caseb (fun _ => ?_) (fun h => absurd (of_decide_eq_false h) (by omega))
    | refine caseb (fun h => absurd (of_decide_eq_true h) (by omega)) (fun _ => ?_)
    | refine caseb (fun _ => ?_) (fun h => absurd (beq_eq_false_iff_ne.1 h) (by omega))
    | refine caseb (fun h => absurd (eq_of_beq h) (by omega)) (fun _ => ?_)
  conv => whnf
  first
    | refine caseb (fun _ => ?_) (fun h => absurd (of_decide_eq_false h) (by omega))
    | refine caseb (fun h => absurd (of_decide_eq_true h) (by omega)) (fun _ => ?_)
    | refine caseb (fun _ => ?_) (fun h => absurd (beq_eq_false_iff_ne.1 h) (by omega))
    | refine caseb (fun h => absurd (eq_of_beq h) (by omega)) (fun _ => ?_)
  conv => whnf
  first
    | refine caseb (fun _ => ?_) (fun h => absurd (of_decide_eq_false h) (by omega))
    | refine caseb (fun h => absurd (of_decide_eq_true h) (by omega)) (fun _ => ?_)
    | refine caseb (fun _ => ?_) (fun h => absurd (beq_eq_false_iff_ne.1 h) (by omega))
    | refine caseb (fun h => absurd (eq_of_beq h) (by omega)) (fun _ => ?_)
  conv => whnf
  refine SW.loopM TTok (fun i : Nat => [(2, .lp 0 0), (5, .val (.int .i64 k)), (8, .sl 1 (srows N) false), (42, .sl 1 (srows N) false), (43, .val (.int .i64 (srows N).length)), (44, .val (.int .i64 (i : Int)))]) (fun i => [(0, .cells 2 [[.val (.int .i64 0), .sl 0 [] true]])]) 312 57 rfl (fun i => N.length - i) (fun i => i ≤ N.length ∧ ∀ (j : Nat) (x : ByteArray), j < i → N[j]? = some x → nameL (runes x) = true) 0 [] ⟨Nat.zero_le _, fun j x h => absurd h (Nat.not_lt_zero j)⟩
    ⟨⟨rfl, rfl⟩, ⟨rfl, rfl⟩, ⟨rfl, rfl⟩, ⟨rfl, rfl⟩, ⟨rfl, rfl⟩, ⟨rfl, rfl⟩, trivial⟩ ⟨⟨rfl, .inr ⟨rfl, rfl⟩⟩, trivial⟩ rfl ?_
  intro i hJ
  have hi : i ≤ N.length := hJ.1
  have hn2 := hJ.2
  clear hJ
  conv => whnf
  refine caseb (fun h1 => ?_) (fun h1 => ?_)
  · have h1' : (i : Int) < (srows N).length := of_decide_eq_true h1
    have hlt : i < N.length := by omega
    have hg := srows_get N (List.getElem?_eq_getElem hlt)
    have hsz := hs N[i] (List.mem_cons_of_mem _ (List.getElem_mem hlt))
    have hrl := runes_len N[i]
    have hN := Name_ok (runes N[i]) false (by omega)
    have hil := irows_len .i32 (runes N[i])
    have er : (List.drop 0 (irows .i32 (runes N[i]))).take (runes N[i]).length = irows .i32 (runes N[i]) := by
      rw [List.drop_zero, List.take_of_length_le (by omega)]
    rw [← er] at hN
    conv => whnf
    refine ⟨_, ⟨by omega, hg⟩, ?_⟩
    conv => whnf
    refine ⟨by show 0 + (runes N[i]).length ≤ _; omega, _, hN, ?_⟩
    by_cases hnm : nameL (runes N[i]) = true
    · rw [hnm]
      conv => whnf
      refine ⟨i + 1, [], (by show N.length - (i + 1) < N.length - i; omega), ⟨(by show i + 1 ≤ N.length; omega), fun j x hj hx => ?_⟩, ⟨⟨rfl, rfl⟩, ⟨rfl, rfl⟩, ⟨rfl, rfl⟩, ⟨rfl, rfl⟩, ⟨rfl, rfl⟩, ⟨valI ?_, rfl⟩, trivial⟩, ⟨⟨rfl, .inr ⟨rfl, rfl⟩⟩, trivial⟩, rfl⟩
      · by_cases e : j = i
        · subst e
          rw [List.getElem?_eq_getElem hlt] at hx
          rw [← Option.some.inj hx]
          exact hnm
        · exact hn2 j x (by omega) hx
      · show IntKind.i64.wrap ((i : Int) + 1) = ((i + 1 : Nat) : Int)
        rw [IntWalk.i64_in _ (by omega)]; omega
    · have hnm' : nameL (runes N[i]) = false := Bool.eq_false_iff.2 hnm
      rw [hnm']
      rw [if_neg (fun h : (N.all fun s => nameL (runes s)) = true => hnm (List.all_eq_true.1 h N[i] (List.getElem_mem hlt)))] at hp
      rw [hp]
      conv => whnf
      exact rfl
  · have h1' : ¬ (i : Int) < (srows N).length := of_decide_eq_false h1
    rw [if_pos (List.all_eq_true.2 (fun x hx => by
      obtain ⟨q, hq⟩ := List.getElem?_of_mem hx
      have := (List.getElem?_eq_some_iff.1 hq).1
      exact hn2 q x (by omega) hq))] at hp
    rw [hp]
    conv => whnf
    exact rfl

end Go.Proofs.Ytdlonboheckdoaa

/- Commands: the document's reading of a line. -/
set_option linter.unusedVariables false
namespace Go.Proofs.Ytdlonboheckdoaa
open Go Go.AL

theorem kindI_end (l : List (ByteArray × Int × Int)) (k : Int) (s : ByteArray) (h : l = []) : kindI l k s = (0, 0, 0) := by rw [h]; rfl
theorem RParse_ok (L : List Int) (hb : L.length < 1000000) (hw : (wordsL L).length < 1000000) (hs : ∀ s ∈ wordsL L, s.size < 1000000) : AC Try.prog 11 [.sl 1 (irows .i32 L) false] (.pure (rorderV (parseO (wordsL L)))) := by
  refine AC.of_body TTok Try.func11 rfl (enter_of Try.func11 (by kernel_rfl) (by kernel_rfl)) (noid1 (slI_noid _ _ _)) (rorderV_noid _) (Nat.le_of_ble_eq_true rfl) ?_
  have hW := RWords_ok L (by omega)
  have hRows := Rows_ok
  have hrl : (rowsT.map rowV).length = 13 := by rw [List.length_map]; rfl
  generalize wordsL L = W at *
  cases W with
  | nil =>
    generalize rowsT.map rowV = RR at *
    conv => whnf
    refine ⟨_, hW, ?_⟩
    conv => whnf
    refine ⟨_, hRows, ?_⟩
    conv => whnf
    refine SW.loopM TTok (fun k : Nat => [(5, .sl 1 (srows []) false), (6, .sl 3 RR false), (7, .val (.int .i64 (k : Int)))]) (fun k => []) 72 69 rfl (fun k => 0) (fun k => k = 0) 0 [] rfl
      ⟨⟨rfl, rfl⟩, ⟨rfl, rfl⟩, ⟨rfl, rfl⟩, trivial⟩ trivial rfl ?_
    intro k hk
    have hk : k = 0 := hk
    repeat
      conv => whnf
      first
        | refine ⟨_, by assumption, ?_⟩
        | refine ⟨(Nat.le_of_ble_eq_true rfl), _, by assumption, ?_⟩
        | refine ⟨by kernel_rfl, ?_⟩
        | exact rfl
        | exact ⟨Nat.le_of_ble_eq_true rfl, rfl⟩
        | refine ⟨by decide, ?_⟩
        | refine caseb (fun _ => ?_) (fun h => absurd (of_decide_eq_false h) (by omega))
        | refine caseb (fun h => absurd (of_decide_eq_true h) (by omega)) (fun _ => ?_)
        | refine caseb (fun _ => ?_) (fun h => absurd (beq_eq_false_iff_ne.1 h) (by omega))
        | refine caseb (fun h => absurd (eq_of_beq h) (by omega)) (fun _ => ?_)
  | cons w N =>
  have hlW := srows_len (w :: N)
  have hl1 : (w :: N).length = N.length + 1 := rfl
  have hp : parseO (w :: N) = if (kindI rowsT 1 w).1 = 0 ∨ (N.length : Int) < (kindI rowsT 1 w).2.1 ∨ (N.length : Int) > (kindI rowsT 1 w).2.2 then none else if N.all (fun s => nameL (runes s)) then some ((kindI rowsT 1 w).1, N) else none := rfl
  have eL : IntKind.i64.wrap (((srows (w :: N)).length : Int) - 1) = (N.length : Int) := by rw [IntWalk.i64_in _ (by omega)]; omega
  have hgr : ∀ (k : Nat) (p : ByteArray × Int × Int), rowsT[k]? = some p → (rowsT.map rowV)[k]? = some (rowV p) := fun k p h => rows_get h
  have hkd : ∀ k : Nat, k < 13 → ∃ p, rowsT[k]? = some p ∧ rowsT.drop k = p :: rowsT.drop (k + 1) := fun k h => ⟨rowsT[k]'(by rw [rowsT_len]; exact h), List.getElem?_eq_getElem _, List.drop_eq_getElem_cons _⟩
  have hke : rowsT.drop 13 = [] := rfl
  have hk0 : kindI rowsT 1 w = kindI (rowsT.drop 0) ((0 : Nat) + 1 : Int) w := rfl
  generalize parseO (w :: N) = po at *
  generalize rowsT.map rowV = RR at *
  generalize rowsT = T at *
  conv => whnf
  refine ⟨_, hW, ?_⟩
  conv => whnf
  refine ⟨_, hRows, ?_⟩
  conv => whnf
  refine SW.loopM TTok (fun k : Nat => [(5, .sl 1 (srows (w :: N)) false), (6, .sl 3 RR false), (7, .val (.int .i64 (k : Int)))]) (fun k => []) 72 69 rfl (fun k => 13 - k) (fun k => k ≤ 13 ∧ kindI T 1 w = kindI (T.drop k) ((k : Int) + 1) w) 0 [] ⟨Nat.zero_le _, hk0⟩
    ⟨⟨rfl, rfl⟩, ⟨rfl, rfl⟩, ⟨rfl, rfl⟩, trivial⟩ trivial rfl ?_
  intro k hJ
  have hk : k ≤ 13 := hJ.1
  have hkk : kindI T 1 w = kindI (T.drop k) ((k : Int) + 1) w := hJ.2
  clear hJ
  by_cases h13 : k < 13
  rotate_left
  · have : k = 13 := by omega
    subst this
    rw [hkk, kindI_end _ _ _ hke, if_pos (.inl rfl)] at hp
    rw [hp]
    repeat
      conv => whnf
      first
        | refine ⟨_, by assumption, ?_⟩
        | refine ⟨(Nat.le_of_ble_eq_true rfl), _, by assumption, ?_⟩
        | refine ⟨by kernel_rfl, ?_⟩
        | exact rfl
        | exact ⟨Nat.le_of_ble_eq_true rfl, rfl⟩
        | refine ⟨by decide, ?_⟩
        | refine caseb (fun _ => ?_) (fun h => absurd (of_decide_eq_false h) (by omega))
        | refine caseb (fun h => absurd (of_decide_eq_true h) (by omega)) (fun _ => ?_)
        | refine caseb (fun _ => ?_) (fun h => absurd (beq_eq_false_iff_ne.1 h) (by omega))
        | refine caseb (fun h => absurd (eq_of_beq h) (by omega)) (fun _ => ?_)
  obtain ⟨⟨pw, pa, pb⟩, hgk, hdk⟩ := hkd k h13
  have hgk := hgr k _ hgk
  rw [hdk] at hkk
  unfold rowV at hgk
  simp only at hgk
  conv => whnf
  first
    | refine caseb (fun _ => ?_) (fun h => absurd (of_decide_eq_false h) (by omega))
    | refine caseb (fun h => absurd (of_decide_eq_true h) (by omega)) (fun _ => ?_)
    | refine caseb (fun _ => ?_) (fun h => absurd (beq_eq_false_iff_ne.1 h) (by omega))
    | refine caseb (fun h => absurd (eq_of_beq h) (by omega)) (fun _ => ?_)
  conv => whnf
  first
    | refine caseb (fun _ => ?_) (fun h => absurd (of_decide_eq_false h) (by omega))
    | refine caseb (fun h => absurd (of_decide_eq_true h) (by omega)) (fun _ => ?_)
    | refine caseb (fun _ => ?_) (fun h => absurd (beq_eq_false_iff_ne.1 h) (by omega))
    | refine caseb (fun h => absurd (eq_of_beq h) (by omega)) (fun _ => ?_)
    | skip
  conv => whnf
  refine ⟨_, ⟨by omega, hgk⟩, ?_⟩
  conv => whnf
  refine ⟨_, ⟨by omega, srows_get (w :: N) (x := w) rfl⟩, ?_⟩
  cases hEq : (w.toList == pw.toList)
  · rw [kindI_miss hEq] at hkk
    have f1 : (!(pw.toList == w.toList)) = true := by rw [show (pw.toList == w.toList) = false from beq_eq_false_iff_ne.2 (fun e => by rw [e, beq_self_eq_true] at hEq; cases hEq)]; rfl
    conv => whnf
    refine ⟨by kernel_rfl, ?_⟩
    conv => whnf
    refine caseb (fun _ => ?_) (fun h => Bool.noConfusion ((f1).symm.trans h))
    conv => whnf
    refine ⟨k + 1, [], (by show 13 - (k + 1) < 13 - k; omega), ⟨(by show k + 1 ≤ 13; omega), ?_⟩, ⟨⟨rfl, rfl⟩, ⟨rfl, rfl⟩, ⟨valI ?_, rfl⟩, trivial⟩, trivial, rfl⟩
    · show kindI T 1 w = kindI (T.drop (k + 1)) (((k + 1 : Nat) : Int) + 1) w
      rw [hkk]; rfl
    · show IntKind.i64.wrap ((k : Int) + 1) = ((k + 1 : Nat) : Int)
      rw [IntWalk.i64_in _ (by omega)]; omega
  rw [kindI_hit hEq] at hkk
  rw [hkk] at hp
  simp only at hp
  have f1 : (!(pw.toList == w.toList)) = false := by rw [eq_of_beq hEq, beq_self_eq_true]; rfl
  conv => whnf
  refine ⟨by kernel_rfl, ?_⟩
  conv => whnf
  refine caseb (fun h => Bool.noConfusion ((f1).symm.trans h)) (fun _ => ?_)
  conv => whnf
  refine ⟨_, ⟨by omega, hgk⟩, ?_⟩
  by_cases g2 : (N.length : Int) < pa
  · rw [if_pos (.inr (.inl g2))] at hp
    rw [hp]
    repeat
      conv => whnf
      first
        | refine ⟨_, by assumption, ?_⟩
        | refine ⟨(Nat.le_of_ble_eq_true rfl), _, by assumption, ?_⟩
        | refine ⟨by kernel_rfl, ?_⟩
        | exact rfl
        | exact ⟨Nat.le_of_ble_eq_true rfl, rfl⟩
        | refine ⟨by decide, ?_⟩
        | refine caseb (fun _ => ?_) (fun h => absurd (of_decide_eq_false h) (by omega))
        | refine caseb (fun h => absurd (of_decide_eq_true h) (by omega)) (fun _ => ?_)
        | refine caseb (fun _ => ?_) (fun h => absurd (beq_eq_false_iff_ne.1 h) (by omega))
        | refine caseb (fun h => absurd (eq_of_beq h) (by omega)) (fun _ => ?_)
  conv => whnf
  first
    | refine caseb (fun _ => ?_) (fun h => absurd (of_decide_eq_false h) (by omega))
    | refine caseb (fun h => absurd (of_decide_eq_true h) (by omega)) (fun _ => ?_)
    | refine caseb (fun _ => ?_) (fun h => absurd (beq_eq_false_iff_ne.1 h) (by omega))
    | refine caseb (fun h => absurd (eq_of_beq h) (by omega)) (fun _ => ?_)
  conv => whnf
  refine ⟨_, ⟨by omega, hgk⟩, ?_⟩
  by_cases g3 : (N.length : Int) > pb
  · rw [if_pos (.inr (.inr g3))] at hp
    rw [hp]
    repeat
      conv => whnf
      first
        | refine ⟨_, by assumption, ?_⟩
        | refine ⟨(Nat.le_of_ble_eq_true rfl), _, by assumption, ?_⟩
        | refine ⟨by kernel_rfl, ?_⟩
        | exact rfl
        | exact ⟨Nat.le_of_ble_eq_true rfl, rfl⟩
        | refine ⟨by decide, ?_⟩
        | refine caseb (fun _ => ?_) (fun h => absurd (of_decide_eq_false h) (by omega))
        | refine caseb (fun h => absurd (of_decide_eq_true h) (by omega)) (fun _ => ?_)
        | refine caseb (fun _ => ?_) (fun h => absurd (beq_eq_false_iff_ne.1 h) (by omega))
        | refine caseb (fun h => absurd (eq_of_beq h) (by omega)) (fun _ => ?_)
  rw [if_neg (by omega)] at hp
  conv => whnf
  first
    | refine caseb (fun _ => ?_) (fun h => absurd (of_decide_eq_false h) (by omega))
    | refine caseb (fun h => absurd (of_decide_eq_true h) (by omega)) (fun _ => ?_)
    | refine caseb (fun _ => ?_) (fun h => absurd (beq_eq_false_iff_ne.1 h) (by omega))
    | refine caseb (fun h => absurd (eq_of_beq h) (by omega)) (fun _ => ?_)
  conv => whnf
  refine SW.loopM TTok (fun i : Nat => [(5, .sl 1 (srows (w :: N)) false), (7, .val (.int .i64 (k : Int))), (8, .val (.int .i64 ((i : Int) + 1)))]) (fun i => []) 384 69 rfl (fun i => N.length - i) (fun i => i ≤ N.length ∧ ∀ (j : Nat) (x : ByteArray), j < i → N[j]? = some x → nameL (runes x) = true) 0 [] ⟨Nat.zero_le _, fun j x h => absurd h (Nat.not_lt_zero j)⟩
    ⟨⟨rfl, rfl⟩, ⟨rfl, rfl⟩, ⟨rfl, rfl⟩, trivial⟩ trivial rfl ?_
  intro i hJ
  have hi : i ≤ N.length := hJ.1
  have hn2 := hJ.2
  clear hJ
  conv => whnf
  refine caseb (fun h1 => ?_) (fun h1 => ?_)
  · have h1' : (i : Int) + 1 < (srows (w :: N)).length := of_decide_eq_true h1
    have hlt : i < N.length := by omega
    have hg := srows_get (w :: N) (i := i + 1) (x := N[i]) (by rw [List.getElem?_cons_succ]; exact List.getElem?_eq_getElem hlt)
    have hsz := hs N[i] (List.mem_cons_of_mem _ (List.getElem_mem hlt))
    have hrl := runes_len N[i]
    have hN := RName_ok (runes N[i]) false (by omega)
    have hil := irows_len .i32 (runes N[i])
    have er : (List.drop 0 (irows .i32 (runes N[i]))).take (runes N[i]).length = irows .i32 (runes N[i]) := by
      rw [List.drop_zero, List.take_of_length_le (by omega)]
    rw [← er] at hN
    conv => whnf
    refine ⟨_, ⟨by omega, by rw [show ((i : Int) + 1).toNat = i + 1 by omega]; exact hg⟩, ?_⟩
    conv => whnf
    refine ⟨by show 0 + (runes N[i]).length ≤ _; omega, _, hN, ?_⟩
    by_cases hnm : nameL (runes N[i]) = true
    · rw [hnm]
      conv => whnf
      refine ⟨i + 1, [], (by show N.length - (i + 1) < N.length - i; omega), ⟨(by show i + 1 ≤ N.length; omega), fun j x hj hx => ?_⟩, ⟨⟨rfl, rfl⟩, ⟨rfl, rfl⟩, ⟨valI ?_, rfl⟩, trivial⟩, trivial, rfl⟩
      · by_cases e : j = i
        · subst e
          rw [List.getElem?_eq_getElem hlt] at hx
          rw [← Option.some.inj hx]
          exact hnm
        · exact hn2 j x (by omega) hx
      · show IntKind.i64.wrap ((i : Int) + 1 + 1) = ((i + 1 : Nat) : Int) + 1
        rw [IntWalk.i64_in _ (by omega)]; omega
    · have hnm' : nameL (runes N[i]) = false := Bool.eq_false_iff.2 hnm
      rw [hnm']
      rw [if_neg (fun h : (N.all fun s => nameL (runes s)) = true => hnm (List.all_eq_true.1 h N[i] (List.getElem_mem hlt)))] at hp
      rw [hp]
      conv => whnf
      exact rfl
  · have h1' : ¬ (i : Int) + 1 < (srows (w :: N)).length := of_decide_eq_false h1
    rw [if_pos (List.all_eq_true.2 (fun x hx => by
      obtain ⟨q, hq⟩ := List.getElem?_of_mem hx
      have := (List.getElem?_eq_some_iff.1 hq).1
      exact hn2 q x (by omega) hq))] at hp
    rw [hp]
    conv => whnf
    refine ⟨⟨by omega, by omega⟩, ?_⟩
    conv => whnf
    refine ⟨by kernel_rfl, ?_⟩
    conv => whnf
    have e1 : IntKind.i64.wrap ((k : Int) + 1) = (k : Int) + 1 := by rw [IntWalk.i64_in _ (by omega)]
    have e2 : List.drop 1 (List.take (srows (w :: N)).length (srows (w :: N))) = srows N := by rw [List.take_of_length_le (Nat.le_refl _)]; rfl
    show AV.tup [.val (.int .i64 (IntKind.i64.wrap ((k : Int) + 1))), .sl 1 (List.drop 1 (List.take (srows (w :: N)).length (srows (w :: N)))) false, .val (.bool true)] = _
    rw [e1, e2]; rfl

end Go.Proofs.Ytdlonboheckdoaa

/- Commands: the chapter's examples. -/
set_option linter.unusedVariables false
namespace Go.Proofs.Ytdlonboheckdoaa
open Go Go.AL

theorem tl (s t : ByteArray) : (s.toList == t.toList) = (s.data.toList == t.data.toList) := by rw [toList_eq, toList_eq]
theorem hit_d {p : ByteArray × Int × Int} {l : List (ByteArray × Int × Int)} {k : Int} {s : ByteArray} (h : (s.data.toList == p.1.data.toList) = true) : kindI (p :: l) k s = (k, p.2.1, p.2.2) := kindI_hit (by rw [tl]; exact h)
theorem miss_d {p : ByteArray × Int × Int} {l : List (ByteArray × Int × Int)} {k : Int} {s : ByteArray} (h : (s.data.toList == p.1.data.toList) = false) : kindI (p :: l) k s = kindI l (k + 1) s := kindI_miss (by rw [tl]; exact h)
theorem kind_copy : kindI rowsT 1 { data := #[41, 67, 79, 80, 89] } = (4, 1, 99) := by
  unfold rowsT
  rw [miss_d (by rfl), miss_d (by rfl), miss_d (by rfl), hit_d (by rfl)]
  rfl
theorem kind_save : kindI rowsT 1 { data := #[41, 83, 65, 86, 69] } = (2, 0, 1) := by
  unfold rowsT
  rw [miss_d (by rfl), hit_d (by rfl)]
  rfl
theorem words_1 : wordsL [32, 41, 67, 79, 80, 89, 32, 87, 32, 65] = [{ data := #[41, 67, 79, 80, 89] }, { data := #[87] }, { data := #[65] }] := by decide +kernel
theorem words_2 : wordsL [41, 83, 65, 86, 69, 32, 49] = [{ data := #[41, 83, 65, 86, 69] }, { data := #[49] }] := by decide +kernel
theorem runes_1 : runes { data := #[32, 41, 67, 79, 80, 89, 32, 87, 32, 65] } = [32, 41, 67, 79, 80, 89, 32, 87, 32, 65] := by decide +kernel
theorem runes_2 : runes { data := #[41, 83, 65, 86, 69, 32, 49] } = [41, 83, 65, 86, 69, 32, 49] := by decide +kernel
theorem parseO_cons (w : ByteArray) (N : List ByteArray) : parseO (w :: N) = if (kindI rowsT 1 w).1 = 0 ∨ (N.length : Int) < (kindI rowsT 1 w).2.1 ∨ (N.length : Int) > (kindI rowsT 1 w).2.2 then none else if N.all (fun s => nameL (runes s)) then some ((kindI rowsT 1 w).1, N) else none := rfl
theorem parse_1 : parseO [{ data := #[41, 67, 79, 80, 89] }, { data := #[87] }, { data := #[65] }] = some (4, [{ data := #[87] }, { data := #[65] }]) := by
  rw [parseO_cons, kind_copy, if_neg (by decide), if_pos (by decide +kernel)]
theorem parse_2 : parseO [{ data := #[41, 83, 65, 86, 69] }, { data := #[49] }] = none := by
  rw [parseO_cons, kind_save, if_neg (by decide), if_neg (by decide +kernel)]
theorem awake_ok : AC Try.prog 5 [] (.pure (.val (.bool true))) := by
  have hP1 := Parse_ok [32, 41, 67, 79, 80, 89, 32, 87, 32, 65] (by decide) (by rw [words_1]; decide) (by rw [words_1]; decide)
  have hP2 := Parse_ok [41, 83, 65, 86, 69, 32, 49] (by decide) (by rw [words_2]; decide) (by rw [words_2]; decide)
  rw [words_1, parse_1] at hP1
  rw [words_2, parse_2] at hP2
  have hT := Texts_ok [{ data := #[87] }, { data := #[65] }] (by decide)
  unfold orderV at hP1 hP2
  simp only at hP1 hP2
  have e1 : (List.drop 0 (irows .i32 (runes { data := #[32, 41, 67, 79, 80, 89, 32, 87, 32, 65] }))).take (runes { data := #[32, 41, 67, 79, 80, 89, 32, 87, 32, 65] }).length = irows .i32 [32, 41, 67, 79, 80, 89, 32, 87, 32, 65] := by rw [runes_1]; rfl
  have e2 : (List.drop 0 (irows .i32 (runes { data := #[41, 83, 65, 86, 69, 32, 49] }))).take (runes { data := #[41, 83, 65, 86, 69, 32, 49] }).length = irows .i32 [41, 83, 65, 86, 69, 32, 49] := by rw [runes_2]; rfl
  have l1 := irows_len .i32 (runes { data := #[32, 41, 67, 79, 80, 89, 32, 87, 32, 65] })
  have l2 := irows_len .i32 (runes { data := #[41, 83, 65, 86, 69, 32, 49] })
  rw [← e1] at hP1
  rw [← e2] at hP2
  refine AC.of_body TTok Try.func5 rfl (enter_of Try.func5 (by kernel_rfl) (by kernel_rfl)) (by intro x hx; cases hx) (.val _) (Nat.le_of_ble_eq_true rfl) ?_
  conv => whnf
  refine ⟨by show 0 + (runes _).length ≤ (irows _ _).length; omega, _, hP1, ?_⟩
  conv => whnf
  refine ⟨by show 0 + (runes _).length ≤ (irows _ _).length; omega, _, hP2, ?_⟩
  conv => whnf
  refine ⟨(Nat.le_of_ble_eq_true rfl), _, hT, ?_⟩
  repeat
    conv => whnf
    first
      | refine ⟨_, by assumption, ?_⟩
      | refine ⟨(Nat.le_of_ble_eq_true rfl), _, by assumption, ?_⟩
      | refine ⟨by kernel_rfl, ?_⟩
      | exact rfl
      | exact ⟨Nat.le_of_ble_eq_true rfl, rfl⟩
      | refine ⟨by decide, ?_⟩

end Go.Proofs.Ytdlonboheckdoaa

/- Commands: plain laws of words. -/
set_option linter.unusedVariables false
namespace Go.Proofs.Ytdlonboheckdoaa
open Go Go.AL

theorem wst_small (L : List Int) : ∀ i, i ≤ L.length → ∀ g ∈ (wst (L.take i)).1, g.length ≤ i
  | 0, _ => by simp [wst]
  | i + 1, h => by
    have ih := wst_small L i (by omega)
    obtain ⟨v1, _, _⟩ := wst_inv L i (by omega)
    rw [wst_succ L (by omega)]
    generalize wst (L.take i) = st at *
    unfold stepW
    intro g hg
    split at hg
    · split at hg
      · have := ih g hg; omega
      · rcases List.mem_append.1 hg with hg | hg
        · have := ih g hg; omega
        · simp at hg; subst hg; omega
    · have := ih g hg; omega
theorem segs_small (L : List Int) : ∀ g ∈ segs L, g.length ≤ L.length := by
  intro g hg
  have h1 := wst_small L L.length (Nat.le_refl _)
  obtain ⟨v1, _, _⟩ := wst_inv L L.length (Nat.le_refl _)
  rw [List.take_length] at h1 v1
  unfold segs at hg
  split at hg
  · exact h1 g hg
  · rcases List.mem_append.1 hg with hg | hg
    · exact h1 g hg
    · simp at hg; subst hg; exact v1
theorem words_small (L : List Int) : ∀ s ∈ wordsL L, s.size ≤ 4 * L.length := by
  intro s hs
  obtain ⟨g, hg, rfl⟩ := List.mem_map.1 hs
  have := runesStr_le g
  have := segs_small L g hg
  omega
theorem words_len (L : List Int) : (wordsL L).length ≤ L.length + 1 := by
  obtain ⟨_, _, v3⟩ := wst_inv L L.length (Nat.le_refl _)
  rw [List.take_length] at v3
  unfold wordsL segs
  rw [List.length_map]
  split
  · omega
  · rw [List.length_append]; show _ + 1 ≤ _; omega

/-- The first sign of all words. -/
def firstW (st : List (List Int) × List Int) : Option Int :=
  match st.1 with
  | g :: _ => g.head?
  | [] => st.2.head?
theorem first_ok (L : List Int) : ∀ i, i ≤ L.length → firstW (wst (L.take i)) = ((L.take i).dropWhile blank).head? ∧ ∀ g ∈ (wst (L.take i)).1, g ≠ []
  | 0, _ => by simp [wst, firstW]
  | i + 1, h => by
    obtain ⟨h1, h2⟩ := first_ok L i (by omega)
    rw [wst_succ L (by omega), List.take_succ_eq_append_getElem (by omega), List.dropWhile_append]
    generalize wst (L.take i) = st at *
    generalize (L.take i).dropWhile blank = D at *
    generalize L[i] = c at *
    obtain ⟨d, u⟩ := st
    simp only at h2
    unfold stepW
    by_cases hc : c = 32
    · rw [if_pos hc]
      have eD : (if D.isEmpty = true then [c].dropWhile blank else D ++ [c]).head? = D.head? := by
        cases D with
        | nil => rw [if_pos (show ([] : List Int).isEmpty = true from rfl), List.dropWhile_cons, if_pos (by rw [hc]; rfl)]; rfl
        | cons a D => rfl
      rw [eD]
      by_cases hu : u = []
      · rw [if_pos hu]; exact ⟨h1, h2⟩
      · rw [if_neg hu]
        refine ⟨?_, fun g hg => ?_⟩
        · rw [← h1]
          cases d with
          | nil => rfl
          | cons g d => rfl
        · rcases List.mem_append.1 hg with hg | hg
          · exact h2 g hg
          · simp at hg; subst hg; exact hu
    · rw [if_neg hc]
      refine ⟨?_, h2⟩
      cases d with
      | cons g d =>
        have hg : g ≠ [] := h2 g List.mem_cons_self
        have h1' : g.head? = D.head? := h1
        cases D with
        | nil => cases g with
          | nil => exact absurd rfl hg
          | cons x y => cases h1'
        | cons a D => exact h1'
      | nil =>
        have h1' : u.head? = D.head? := h1
        show (u ++ [c]).head? = _
        cases u with
        | nil => cases D with
          | nil => rw [if_pos (show ([] : List Int).isEmpty = true from rfl), List.dropWhile_cons, if_neg (by unfold blank; rw [beq_false_of_ne hc]; decide)]; rfl
          | cons a D => cases h1'
        | cons x y => cases D with
          | nil => cases h1'
          | cons a D => exact h1'
theorem segs_first {L : List Int} {g : List Int} {r : List (List Int)} (h : segs L = g :: r) : g.head? = (L.dropWhile blank).head? ∧ g ≠ [] := by
  obtain ⟨h1, h2⟩ := first_ok L L.length (Nat.le_refl _)
  rw [List.take_length] at h1 h2
  unfold segs at h
  generalize wst L = st at *
  obtain ⟨d, u⟩ := st
  rw [← h1]
  simp only at h h2
  split at h
  · rw [h] at h2 ⊢
    exact ⟨rfl, h2 g List.mem_cons_self⟩
  · rename_i hu
    cases d with
    | nil =>
      injection h with h3 h4
      subst h3
      exact ⟨rfl, hu⟩
    | cons g' d =>
      injection h with h3 h4
      subst h3
      exact ⟨rfl, h2 _ List.mem_cons_self⟩

theorem runesStr_acc (g : List Int) : ∀ a : ByteArray, g.foldl (fun s n => s ++ Utf8.encode n) a = a ++ runesStr g := by
  induction g with
  | nil => intro a; show a = a ++ ByteArray.empty; rw [ByteArray.append_empty]
  | cons c g ih =>
    intro a
    show g.foldl _ (a ++ Utf8.encode c) = a ++ g.foldl _ (ByteArray.empty ++ Utf8.encode c)
    rw [ih, ih, ByteArray.empty_append, ByteArray.append_assoc]
theorem runesStr_cons (c : Int) (g : List Int) : runesStr (c :: g) = Utf8.encode c ++ runesStr g := by
  show g.foldl _ (ByteArray.empty ++ Utf8.encode c) = _
  rw [runesStr_acc, ByteArray.empty_append]
theorem encode_first {c : Int} (h : (Utf8.encode c).data.toList.head? = some 41) : c = 41 := by
  unfold Utf8.encode at h
  dsimp only at h
  have key : ∀ n : Nat, n < 256 → UInt8.ofNat n = 41 → n = 41 := fun n hn e => by
    have := congrArg UInt8.toNat e
    rw [UInt8.toNat_ofNat'] at this
    have h2 : (41 : UInt8).toNat = 41 := rfl
    omega
  generalize hz : (if Utf8.valid c = true then c.toNat else Utf8.runeError) = z at h
  split at h
  · injection h with h
    have h4 := key z (by omega) h
    by_cases hv : Utf8.valid c = true
    · rw [if_pos hv] at hz
      have h0 : 0 ≤ c := by
        unfold Utf8.valid at hv
        simp at hv
        omega
      omega
    · rw [if_neg hv] at hz
      unfold Utf8.runeError at hz
      omega
  · split at h
    · injection h with h
      have := key (192 + z / 64) (by omega) h
      omega
    · split at h
      · injection h with h
        have := key (224 + z / 4096) (by omega) h
        omega
      · have hz' : z ≤ 1114111 := by
          by_cases hv : Utf8.valid c = true
          · rw [if_pos hv] at hz
            unfold Utf8.valid at hv
            simp at hv
            omega
          · rw [if_neg hv] at hz
            unfold Utf8.runeError at hz
            omega
        injection h with h
        have := key (240 + z / 262144) (by omega) h
        omega
theorem kindI_mem : ∀ (l : List (ByteArray × Int × Int)) (k : Int) (s : ByteArray), (kindI l k s).1 ≠ 0 → ∃ p ∈ l, s.data.toList = p.1.data.toList
  | [], _, _, h => absurd rfl h
  | p :: l, k, s, h => by
    by_cases e : (s.toList == p.1.toList) = true
    · refine ⟨p, List.mem_cons_self, ?_⟩
      have := eq_of_beq e
      rwa [toList_eq, toList_eq] at this
    · rw [kindI_miss (by simpa using e)] at h
      obtain ⟨q, hq, hs⟩ := kindI_mem l (k + 1) s h
      exact ⟨q, List.mem_cons_of_mem _ hq, hs⟩
theorem rows_first : ∀ p ∈ rowsT, p.1.data.toList.head? = some 41 := by decide
theorem parse_is (L : List Int) {k : Int} {N : List ByteArray} (h : parseO (wordsL L) = some (k, N)) : isL L = true := by
  cases hs : segs L with
  | nil => unfold wordsL at h; rw [hs] at h; cases h
  | cons g r =>
    obtain ⟨h1, h2⟩ := segs_first hs
    unfold wordsL at h
    rw [hs, List.map_cons, parseO_cons] at h
    have hk : (kindI rowsT 1 (runesStr g)).1 ≠ 0 := fun e => by rw [if_pos (.inl e)] at h; cases h
    obtain ⟨p, hp, e⟩ := kindI_mem _ _ _ hk
    have hf := rows_first p hp
    rw [← e] at hf
    cases g with
    | nil => exact absurd rfl h2
    | cons a g =>
      rw [runesStr_cons] at hf
      have h3 : (Utf8.encode a).data.toList.head? = some 41 := by
        have hpos := encode_pos a
        rw [ByteArray.data_append, Array.toList_append] at hf
        cases hd : (Utf8.encode a).data.toList with
        | nil =>
          have : (Utf8.encode a).size = 0 := by
            show (Utf8.encode a).data.size = 0
            rw [← Array.length_toList, hd]; rfl
          omega
        | cons x y => rw [hd] at hf; exact hf
      have ha := encode_first h3
      unfold isL
      cases hD : L.dropWhile blank with
      | nil => rw [hD] at h1; cases h1
      | cons b D =>
        rw [hD] at h1
        injection h1 with h1
        show (b == 41) = true
        rw [← h1, ha]; rfl

end Go.Proofs.Ytdlonboheckdoaa

/- Texts and signs: signs of names, written and read, are themselves. -/
set_option linter.unusedVariables false
namespace Go.Proofs.Ytdlonboheckdoaa
open Go Go.AL

/-- Signs whose bytes are told here. -/
def good (c : Int) : Prop := (0 ≤ c ∧ c < 128) ∨ c = 8710
instance (c : Int) : Decidable (good c) := inferInstanceAs (Decidable (_ ∨ _))
theorem wordc_good {c : Int} (h : wordc c) : good c := by unfold wordc letter at h; unfold good; omega

theorem get_at {s : ByteArray} {j : Nat} {b : UInt8} (h : s.data.toList[j]? = some b) : s.get! j = b := by
  obtain ⟨bs⟩ := s
  show bs[j]! = b
  have h' : bs[j]? = some b := by rw [← Array.getElem?_toList]; exact h
  obtain ⟨hlt, e⟩ := Array.getElem?_eq_some_iff.1 h'
  rw [getElem!_pos bs j hlt, e]
theorem at_get {s : ByteArray} {j : Nat} (h : j < s.size) : s.data.toList[j]? = some (s.get! j) := by
  obtain ⟨bs⟩ := s
  have h : j < bs.size := h
  show bs.toList[j]? = some bs[j]!
  rw [Array.getElem?_toList, getElem!_pos bs j h, Array.getElem?_eq_getElem h]
theorem drop_get {s : ByteArray} {j : Nat} (h : j < s.size) : s.data.toList.drop j = s.get! j :: s.data.toList.drop (j + 1) := by
  have hl : j < s.data.toList.length := by rw [Array.length_toList]; exact h
  rw [List.drop_eq_getElem_cons hl]
  congr 1
  have := at_get h
  rw [List.getElem?_eq_getElem hl] at this
  exact Option.some.inj this
theorem size_list (s : ByteArray) : s.data.toList.length = s.size := by rw [Array.length_toList]; rfl

theorem encode_low {c : Int} (h0 : 0 ≤ c) (h : c < 128) : (Utf8.encode c).data.toList = [UInt8.ofNat c.toNat] := by
  unfold Utf8.encode
  dsimp only
  have hv : Utf8.valid c = true := by unfold Utf8.valid; simp; omega
  rw [hv, if_pos rfl, if_pos (by omega)]
theorem encode_delta : (Utf8.encode 8710).data.toList = [226, 136, 134] := by decide +kernel
theorem ofNat_toNat (b : UInt8) : UInt8.ofNat b.toNat = b := UInt8.ofNat_toNat

/-- A good sign that is read stands there as its bytes. -/
theorem decode_good (s : ByteArray) (i : Nat) (hi : i < s.size) (hg : good ((Utf8.decode s i).1 : Int)) : s.data.toList.drop i = (Utf8.encode ((Utf8.decode s i).1 : Int)).data.toList ++ s.data.toList.drop (i + (Utf8.decode s i).2) ∧ (Utf8.decode s i).2 = (Utf8.encode ((Utf8.decode s i).1 : Int)).data.toList.length := by
  have key : ∀ c w, Utf8.decode s i = (c, w) → good (c : Int) → s.data.toList.drop i = (Utf8.encode (c : Int)).data.toList ++ s.data.toList.drop (i + w) ∧ w = (Utf8.encode (c : Int)).data.toList.length := by
    intro c w hd hg
    unfold Utf8.decode at hd
    dsimp only at hd
    have hb := (s.get! (i + 0)).toNat_lt
    split at hd
    · rename_i h
      obtain ⟨rfl, rfl⟩ := Prod.mk.inj hd
      rw [encode_low (by omega) (by omega), drop_get hi]
      refine ⟨?_, rfl⟩
      show s.get! i :: _ = [UInt8.ofNat (((s.get! i).toNat : Int)).toNat] ++ _
      rw [show (((s.get! i).toNat : Int)).toNat = (s.get! i).toNat by omega, ofNat_toNat]
      rfl
    · split at hd
      · split at hd
        · obtain ⟨rfl, rfl⟩ := Prod.mk.inj hd
          unfold good at hg
          omega
        · obtain ⟨rfl, rfl⟩ := Prod.mk.inj hd
          unfold good Utf8.runeError at hg
          omega
      · split at hd
        · rename_i h3
          split at hd
          · rename_i h9
            obtain ⟨rfl, rfl⟩ := Prod.mk.inj hd
            simp only [Bool.and_eq_true, decide_eq_true_eq] at h9
            have h9 := h9.1
            simp only [Bool.and_eq_true, decide_eq_true_eq, beq_iff_eq] at h3
            obtain ⟨⟨h4, h5, h6⟩, h7, h8⟩ := h3
            have hb1 := (s.get! (i + 1)).toNat_lt
            have hb2 := (s.get! (i + 2)).toNat_lt
            unfold good at hg
            have e0 : (s.get! (i + 0)).toNat = 226 := by omega
            have e1 : (s.get! (i + 1)).toNat = 136 := by omega
            have e2 : (s.get! (i + 2)).toNat = 134 := by omega
            have g0 : s.get! i = 226 := UInt8.toNat_inj.1 e0
            have g1 : s.get! (i + 1) = 136 := UInt8.toNat_inj.1 e1
            have g2 : s.get! (i + 1 + 1) = 134 := UInt8.toNat_inj.1 e2
            rw [e0, e1, e2]
            rw [show (((226 % 16 * 4096 + 136 % 64 * 64 + 134 % 64 : Nat)) : Int) = 8710 from rfl, encode_delta, drop_get hi, drop_get h5, drop_get (show i + 1 + 1 < s.size from h7), g0, g1, g2]
            exact ⟨rfl, rfl⟩
          · obtain ⟨rfl, rfl⟩ := Prod.mk.inj hd
            unfold good Utf8.runeError at hg
            omega
        · split at hd
          · split at hd
            · rename_i h9
              obtain ⟨rfl, rfl⟩ := Prod.mk.inj hd
              simp only [Bool.and_eq_true, decide_eq_true_eq] at h9
              unfold good at hg
              omega
            · obtain ⟨rfl, rfl⟩ := Prod.mk.inj hd
              unfold good Utf8.runeError at hg
              omega
          · obtain ⟨rfl, rfl⟩ := Prod.mk.inj hd
            unfold good Utf8.runeError at hg
            omega
  exact key _ _ rfl hg
/-- What is good, read and written, is as it was. -/
theorem runesL_back (s : ByteArray) : ∀ f i, s.size ≤ i + f → i ≤ s.size → (∀ c ∈ runesL s f i, good c) → (runesStr (runesL s f i)).data.toList = s.data.toList.drop i
  | 0, i, hf, hi, _ => by
    show ByteArray.empty.data.toList = _
    rw [List.drop_eq_nil_of_le (by rw [size_list]; omega)]; rfl
  | f + 1, i, hf, hi, hg => by
    by_cases h : i < s.size
    · rw [show runesL s (f + 1) i = ((Utf8.decode s i).1 : Int) :: runesL s f (i + (Utf8.decode s i).2) from if_pos h] at hg ⊢
      obtain ⟨h1, h3⟩ := decode_good s i h (hg _ List.mem_cons_self)
      have hw := width_pos s i
      have hle : i + (Utf8.decode s i).2 ≤ s.size := by
        have h2 := congrArg List.length h1
        rw [List.length_append, List.length_drop, List.length_drop, size_list, ← h3] at h2
        omega
      rw [runesStr_cons, ByteArray.data_append, Array.toList_append, runesL_back s f _ (by omega) hle (fun c hc => hg c (List.mem_cons_of_mem _ hc)), h1]
    · rw [show runesL s (f + 1) i = [] from if_neg h]
      show ByteArray.empty.data.toList = _
      rw [List.drop_eq_nil_of_le (by rw [size_list]; omega)]; rfl

end Go.Proofs.Ytdlonboheckdoaa

/- Texts and signs: what is written, read; the words of a text of words. -/
set_option linter.unusedVariables false
namespace Go.Proofs.Ytdlonboheckdoaa
open Go Go.AL

theorem drop_at {s : ByteArray} {i k : Nat} {A R : List UInt8} {b : UInt8} (h : s.data.toList.drop i = A ++ R) (hb : A[k]? = some b) : s.get! (i + k) = b ∧ i + k < s.size := by
  have hk := (List.getElem?_eq_some_iff.1 hb).1
  have e : s.data.toList[i + k]? = some b := by
    rw [← List.getElem?_drop, h, List.getElem?_append_left hk, hb]
  refine ⟨get_at e, ?_⟩
  have := (List.getElem?_eq_some_iff.1 e).1
  rw [size_list] at this
  exact this
theorem decode_enc (s : ByteArray) (i : Nat) (c : Int) (R : List UInt8) (hg : good c) (h : s.data.toList.drop i = (Utf8.encode c).data.toList ++ R) : i < s.size ∧ ((Utf8.decode s i).1 : Int) = c ∧ (Utf8.decode s i).2 = (Utf8.encode c).data.toList.length := by
  rcases hg with ⟨h0, h1⟩ | rfl
  · rw [encode_low h0 h1] at h ⊢
    obtain ⟨g, gl⟩ := drop_at (k := 0) h rfl
    have e : (s.get! (i + 0)).toNat = c.toNat := by rw [g, UInt8.toNat_ofNat']; omega
    have hd : Utf8.decode s i = (c.toNat, 1) := by
      unfold Utf8.decode
      dsimp only
      split
      · rw [e]
      · rename_i h5
        exact absurd (show (s.get! (i + 0)).toNat < 128 by omega) h5
    rw [hd]
    exact ⟨gl, by show ((c.toNat : Nat) : Int) = c; omega, rfl⟩
  · rw [encode_delta] at h ⊢
    obtain ⟨g0, gl0⟩ := drop_at (k := 0) h rfl
    obtain ⟨g1, gl1⟩ := drop_at (k := 1) h rfl
    obtain ⟨g2, gl2⟩ := drop_at (k := 2) h rfl
    have hd : Utf8.decode s i = (8710, 3) := by
      unfold Utf8.decode
      dsimp only
      simp only [g0, g1, g2, gl1, gl2]
      kernel_rfl
    rw [hd]
    exact ⟨gl0, rfl, rfl⟩
theorem runesL_of (s : ByteArray) : ∀ (ns : List Int) (f i : Nat), (∀ c ∈ ns, good c) → s.data.toList.drop i = (runesStr ns).data.toList → ns.length ≤ f → runesL s f i = ns
  | [], f, i, _, h, _ => by
    have hl := congrArg List.length h
    rw [List.length_drop, size_list] at hl
    have : (runesStr []).data.toList.length = 0 := rfl
    exact runesL_end s f i (by omega)
  | c :: ns, f, i, hg, h, hf => by
    rw [runesStr_cons, ByteArray.data_append, Array.toList_append] at h
    obtain ⟨h1, h2, h3⟩ := decode_enc s i c _ (hg c List.mem_cons_self) h
    obtain ⟨f, rfl⟩ : ∃ g, f = g + 1 := ⟨f - 1, by have : (c :: ns).length = ns.length + 1 := rfl; omega⟩
    have hn : s.data.toList.drop (i + (Utf8.decode s i).2) = (runesStr ns).data.toList := by
      rw [← List.drop_drop, h, h3, List.drop_left]
    rw [show runesL s (f + 1) i = ((Utf8.decode s i).1 : Int) :: runesL s f (i + (Utf8.decode s i).2) from if_pos h1, h2,
      runesL_of s ns f _ (fun x hx => hg x (List.mem_cons_of_mem _ hx)) hn (by have : (c :: ns).length = ns.length + 1 := rfl; omega)]
theorem runesStr_ge (ns : List Int) : ns.length ≤ (runesStr ns).size := by
  induction ns with
  | nil => exact Nat.zero_le _
  | cons c ns ih =>
    have := encode_pos c
    rw [runesStr_cons, ByteArray.size_append]
    show ns.length + 1 ≤ _
    omega
theorem runes_of {ns : List Int} (hg : ∀ c ∈ ns, good c) : runes (runesStr ns) = ns := runesL_of _ ns _ 0 hg rfl (runesStr_ge ns)
theorem runes_back {s : ByteArray} (hg : ∀ c ∈ runes s, good c) : runesStr (runes s) = s := by
  have h := runesL_back s s.size 0 (by omega) (Nat.zero_le _) hg
  exact ByteArray.ext (Array.toList_inj.1 h)
theorem name_back {s : ByteArray} (h : nameL (runes s) = true) : runesStr (runes s) = s ∧ (∀ c ∈ runes s, good c ∧ c ≠ 32) ∧ runes s ≠ [] := by
  have hw : ∀ c ∈ runes s, wordc c := by
    cases hr : runes s with
    | nil => intro c hc; cases hc
    | cons a t =>
      rw [hr, nameL_cons, Bool.and_eq_true, Bool.and_eq_true, List.all_eq_true] at h
      exact fun c hc => of_decide_eq_true (h.2.2 c hc)
  refine ⟨runes_back (fun c hc => wordc_good (hw c hc)), fun c hc => ⟨wordc_good (hw c hc), fun e => ?_⟩, fun e => by rw [e] at h; cases h⟩
  have := hw c hc
  unfold wordc letter at this
  omega

/-- A line of words with one blank between. -/
def lineL (g : List Int) (gs : List (List Int)) : List Int := g ++ gs.flatMap (fun x => 32 :: x)
theorem stepW_word {d : List (List Int)} {u : List Int} {c : Int} (h : c ≠ 32) : stepW (d, u) c = (d, u ++ [c]) := if_neg h
theorem stepW_blank {d : List (List Int)} {u : List Int} (h : u ≠ []) : stepW (d, u) 32 = (d ++ [u], []) := by
  unfold stepW; rw [if_pos rfl, if_neg h]
theorem step_word : ∀ (g : List Int) (d : List (List Int)) (u : List Int), (∀ c ∈ g, c ≠ 32) → g.foldl stepW (d, u) = (d, u ++ g)
  | [], d, u, _ => by rw [List.append_nil]; rfl
  | c :: g, d, u, h => by
    have hc := h c List.mem_cons_self
    show g.foldl stepW (stepW (d, u) c) = _
    rw [stepW_word hc, step_word g d _ (fun x hx => h x (List.mem_cons_of_mem _ hx)), List.append_assoc]; rfl
theorem step_words : ∀ (gs : List (List Int)) (d : List (List Int)) (u : List Int), u ≠ [] → (∀ g ∈ gs, g ≠ [] ∧ ∀ c ∈ g, c ≠ 32) → ∃ d' u', (gs.flatMap (fun x => 32 :: x)).foldl stepW (d, u) = (d', u') ∧ u' ≠ [] ∧ d' ++ [u'] = d ++ u :: gs
  | [], d, u, hu, _ => ⟨d, u, rfl, hu, rfl⟩
  | g :: gs, d, u, hu, h => by
    obtain ⟨hg, hc⟩ := h g List.mem_cons_self
    obtain ⟨d', u', h1, h2, h3⟩ := step_words gs (d ++ [u]) g hg (fun x hx => h x (List.mem_cons_of_mem _ hx))
    refine ⟨d', u', ?_, h2, by rw [h3]; simp⟩
    rw [List.flatMap_cons, List.foldl_append]
    have e : (32 :: g).foldl stepW (d, u) = (d ++ [u], g) := by
      show g.foldl stepW (stepW (d, u) 32) = _
      rw [stepW_blank hu, step_word g _ _ hc]; rfl
    rw [e, h1]
theorem segs_line (g : List Int) (gs : List (List Int)) (hg : g ≠ [] ∧ ∀ c ∈ g, c ≠ 32) (h : ∀ x ∈ gs, x ≠ [] ∧ ∀ c ∈ x, c ≠ 32) : segs (lineL g gs) = g :: gs := by
  have e : wst (lineL g gs) = (gs.flatMap (fun x => 32 :: x)).foldl stepW ([], g) := by
    unfold wst lineL
    rw [List.foldl_append, step_word g [] [] hg.2]; rfl
  obtain ⟨d', u', h1, h2, h3⟩ := step_words gs [] g hg.1 h
  unfold segs
  rw [e, h1, if_neg h2, h3]; rfl
theorem runesStr_app (a b : List Int) : runesStr (a ++ b) = runesStr a ++ runesStr b := by
  rw [show runesStr (a ++ b) = b.foldl (fun s n => s ++ Utf8.encode n) (runesStr a) from List.foldl_append, runesStr_acc]
/-- A text of words with one blank between. -/
def lineS (w : ByteArray) (A : List ByteArray) : ByteArray := A.foldl (fun s a => s ++ { data := #[32] } ++ a) w
theorem blank_enc : Utf8.encode 32 = { data := #[32] } := by decide +kernel
theorem lineS_is : ∀ (A : List ByteArray) (w : ByteArray) (g : List Int), runesStr g = w → (∀ a ∈ A, runesStr (runes a) = a) → lineS w A = runesStr (lineL g (A.map runes))
  | [], w, g, hw, _ => by
    show w = runesStr (g ++ [])
    rw [List.append_nil, hw]
  | a :: A, w, g, hw, h => by
    have ha := h a List.mem_cons_self
    show lineS (w ++ { data := #[32] } ++ a) A = _
    rw [lineS_is A _ (g ++ 32 :: runes a) (by rw [runesStr_app, runesStr_cons, hw, blank_enc, ha, ByteArray.append_assoc]) (fun x hx => h x (List.mem_cons_of_mem _ hx))]
    unfold lineL
    rw [List.map_cons, List.flatMap_cons, List.append_assoc]
theorem words_line {w : ByteArray} {A : List ByteArray} (hw : runesStr (runes w) = w ∧ (∀ c ∈ runes w, good c ∧ c ≠ 32) ∧ runes w ≠ []) (h : ∀ a ∈ A, nameL (runes a) = true) : wordsL (runes (lineS w A)) = w :: A := by
  have hA : ∀ a ∈ A, runesStr (runes a) = a ∧ (∀ c ∈ runes a, good c ∧ c ≠ 32) ∧ runes a ≠ [] := fun a ha => name_back (h a ha)
  rw [lineS_is A w (runes w) hw.1 (fun a ha => (hA a ha).1), runes_of]
  · unfold wordsL
    rw [segs_line _ _ ⟨hw.2.2, fun c hc => (hw.2.1 c hc).2⟩ (fun x hx => by
      obtain ⟨a, ha, rfl⟩ := List.mem_map.1 hx
      exact ⟨(hA a ha).2.2, fun c hc => ((hA a ha).2.1 c hc).2⟩), List.map_cons, hw.1, List.map_map]
    congr 1
    have : ∀ B : List ByteArray, (∀ a ∈ B, runesStr (runes a) = a) → B.map (runesStr ∘ runes) = B := fun B => by
      induction B with
      | nil => exact fun _ => rfl
      | cons b B ih => exact fun hB => by rw [List.map_cons, ih (fun x hx => hB x (List.mem_cons_of_mem _ hx))]; exact congrArg (· :: B) (hB b List.mem_cons_self)
    exact this A (fun a ha => (hA a ha).1)
  · intro c hc
    unfold lineL at hc
    rcases List.mem_append.1 hc with hc | hc
    · exact (hw.2.1 c hc).1
    · obtain ⟨x, hx, hc⟩ := List.mem_flatMap.1 hc
      obtain ⟨a, ha, rfl⟩ := List.mem_map.1 hx
      rcases List.mem_cons.1 hc with rfl | hc
      · exact .inl (by decide)
      · exact ((hA a ha).2.1 c hc).1
theorem rows_line : ∀ p ∈ rowsT, runesStr (runes p.1) = p.1 ∧ (∀ c ∈ runes p.1, good c ∧ c ≠ 32) ∧ runes p.1 ≠ [] := by decide +kernel

end Go.Proofs.Ytdlonboheckdoaa

/- The statement OrderBack: the walk through the law. -/
set_option linter.unusedVariables false
namespace Go.Proofs.Ytdlonboheckdoaa.orderBack
open Go Go.AL

theorem bool_self (x : Bool) : (x == x) = true := beq_self_eq_true x
theorem int_self (x : Int) : (x == x) = true := beq_self_eq_true x
theorem rows_kind (k : Nat) (p : ByteArray × Int × Int) (h : rowsT[k]? = some p) : kindI rowsT 1 p.1 = ((k : Int) + 1, p.2.1, p.2.2) := by
  have hk := (List.getElem?_eq_some_iff.1 h).1
  rw [rowsT_len] at hk
  match k, hk with
  | 0, _ =>
    injection h with h
    subst h
    unfold rowsT
    rw [hit_d (by rfl)]
    rfl
  | 1, _ =>
    injection h with h
    subst h
    unfold rowsT
    rw [miss_d (by rfl), hit_d (by rfl)]
    rfl
  | 2, _ =>
    injection h with h
    subst h
    unfold rowsT
    rw [miss_d (by rfl), miss_d (by rfl), hit_d (by rfl)]
    rfl
  | 3, _ =>
    injection h with h
    subst h
    unfold rowsT
    rw [miss_d (by rfl), miss_d (by rfl), miss_d (by rfl), hit_d (by rfl)]
    rfl
  | 4, _ =>
    injection h with h
    subst h
    unfold rowsT
    rw [miss_d (by rfl), miss_d (by rfl), miss_d (by rfl), miss_d (by rfl), hit_d (by rfl)]
    rfl
  | 5, _ =>
    injection h with h
    subst h
    unfold rowsT
    rw [miss_d (by rfl), miss_d (by rfl), miss_d (by rfl), miss_d (by rfl), miss_d (by rfl), hit_d (by rfl)]
    rfl
  | 6, _ =>
    injection h with h
    subst h
    unfold rowsT
    rw [miss_d (by rfl), miss_d (by rfl), miss_d (by rfl), miss_d (by rfl), miss_d (by rfl), miss_d (by rfl), hit_d (by rfl)]
    rfl
  | 7, _ =>
    injection h with h
    subst h
    unfold rowsT
    rw [miss_d (by rfl), miss_d (by rfl), miss_d (by rfl), miss_d (by rfl), miss_d (by rfl), miss_d (by rfl), miss_d (by rfl), hit_d (by rfl)]
    rfl
  | 8, _ =>
    injection h with h
    subst h
    unfold rowsT
    rw [miss_d (by rfl), miss_d (by rfl), miss_d (by rfl), miss_d (by rfl), miss_d (by rfl), miss_d (by rfl), miss_d (by rfl), miss_d (by rfl), hit_d (by rfl)]
    rfl
  | 9, _ =>
    injection h with h
    subst h
    unfold rowsT
    rw [miss_d (by rfl), miss_d (by rfl), miss_d (by rfl), miss_d (by rfl), miss_d (by rfl), miss_d (by rfl), miss_d (by rfl), miss_d (by rfl), miss_d (by rfl), hit_d (by rfl)]
    rfl
  | 10, _ =>
    injection h with h
    subst h
    unfold rowsT
    rw [miss_d (by rfl), miss_d (by rfl), miss_d (by rfl), miss_d (by rfl), miss_d (by rfl), miss_d (by rfl), miss_d (by rfl), miss_d (by rfl), miss_d (by rfl), miss_d (by rfl), hit_d (by rfl)]
    rfl
  | 11, _ =>
    injection h with h
    subst h
    unfold rowsT
    rw [miss_d (by rfl), miss_d (by rfl), miss_d (by rfl), miss_d (by rfl), miss_d (by rfl), miss_d (by rfl), miss_d (by rfl), miss_d (by rfl), miss_d (by rfl), miss_d (by rfl), miss_d (by rfl), hit_d (by rfl)]
    rfl
  | 12, _ =>
    injection h with h
    subst h
    unfold rowsT
    rw [miss_d (by rfl), miss_d (by rfl), miss_d (by rfl), miss_d (by rfl), miss_d (by rfl), miss_d (by rfl), miss_d (by rfl), miss_d (by rfl), miss_d (by rfl), miss_d (by rfl), miss_d (by rfl), miss_d (by rfl), hit_d (by rfl)]
    rfl

theorem mod13 {y : Int} (h : 0 ≤ y ∧ y < 256) : ∃ k : Nat, k < 13 ∧ Int.tmod (IntKind.i64.wrap y) 13 = (k : Int) := by
  refine ⟨(y % 13).toNat, by omega, ?_⟩
  rw [IntWalk.i64_in _ (by omega), Int.tmod_eq_emod_of_nonneg h.1]
  omega
theorem lineS_succ (w : ByteArray) (A : List ByteArray) {i : Nat} (h : i < A.length) : lineS w (A.take (i + 1)) = lineS w (A.take i) ++ { data := #[32] } ++ A[i] := by
  unfold lineS
  rw [List.take_succ_eq_append_getElem h, List.foldl_append]; rfl
theorem rows_size : ∀ p ∈ rowsT, p.1.size ≤ 10 := by decide
theorem e32 : ({ data := #[32] } : ByteArray).size = 1 := rfl
theorem holds (y : Int) (A : List ByteArray) (hy : 0 ≤ y ∧ y < 256) (hb : A.length < 9223372036854775808) (hbs : ∀ s ∈ A, s.size < 9223372036854775808) : AC Try.prog 3 [.val (.int .u8 y), .sl 1 (srows A) false] (.pure (.val (.bool true))) := by
  refine AC.of_body TTok Try.func3 rfl (enter_of Try.func3 (by kernel_rfl) (by kernel_rfl)) (noid2 (.val _) (slS_noid _ _)) (.val _) (Nat.le_of_ble_eq_true rfl) ?_
  have hA := awake_ok
  have hlA := srows_len A
  have hRows := Rows_ok
  obtain ⟨k, hk, ek⟩ := mod13 hy
  by_cases h100 : A.length > 100
  · repeat
      conv => whnf
      first
        | refine ⟨_, by assumption, ?_⟩
        | refine ⟨(Nat.le_of_ble_eq_true rfl), _, by assumption, ?_⟩
        | refine ⟨by kernel_rfl, ?_⟩
        | exact rfl
        | exact ⟨Nat.le_of_ble_eq_true rfl, rfl⟩
        | refine ⟨by decide, ?_⟩
        | refine caseb (fun _ => ?_) (fun h => absurd (of_decide_eq_false h) (by omega))
        | refine caseb (fun h => absurd (of_decide_eq_true h) (by omega)) (fun _ => ?_)
        | refine caseb (fun _ => ?_) (fun h => absurd (beq_eq_false_iff_ne.1 h) (by omega))
        | refine caseb (fun h => absurd (eq_of_beq h) (by omega)) (fun _ => ?_)
  have hrl : (rowsT.map rowV).length = 13 := by rw [List.length_map]; rfl
  have hg0 : ∃ p, rowsT[k]? = some p := ⟨rowsT[k]'(by rw [rowsT_len]; exact hk), List.getElem?_eq_getElem _⟩
  obtain ⟨p, hp⟩ := hg0
  have hkind := rows_kind k p hp
  have hline := rows_line p (List.mem_of_getElem? hp)
  have hwz := rows_size p (List.mem_of_getElem? hp)
  have hg := rows_get hp
  generalize rowsT.map rowV = RR at *
  have ek : Int.tmod (IntKind.i64.wrap y) (RR.length : Int) = (k : Int) := by rw [hrl]; exact ek
  obtain ⟨w, a, b⟩ := p
  simp only at hkind hline hwz
  unfold rowV at hg
  simp only at hg
  conv => whnf
  first
    | refine caseb (fun _ => ?_) (fun h => absurd (of_decide_eq_false h) (by omega))
    | refine caseb (fun h => absurd (of_decide_eq_true h) (by omega)) (fun _ => ?_)
    | refine caseb (fun _ => ?_) (fun h => absurd (beq_eq_false_iff_ne.1 h) (by omega))
    | refine caseb (fun h => absurd (eq_of_beq h) (by omega)) (fun _ => ?_)
  conv => whnf
  refine ⟨_, hRows, ?_⟩
  conv => whnf
  refine ⟨by omega, ?_⟩
  conv => whnf
  refine ⟨_, ⟨by rw [ek]; omega, by rw [ek, show (k : Int).toNat = k by omega]; exact hg⟩, ?_⟩
  conv => whnf
  refine SW.loopM TTok (fun i : Nat => [(0, .val (.int .u8 y)), (1, .sl 1 (srows A) false), (5, .sl 3 RR false), (6, .lp 112 0), (7, .val (.string (lineS w (A.take i)))), (8, .val (.int .i64 (i : Int)))])
    (fun i => [(112, .cells 3 [[.val (.string w), .val (.int .i64 a), .val (.int .i64 b)]])]) 160 111 rfl (fun i => A.length - i) (fun i => i ≤ A.length ∧ (lineS w (A.take i)).size ≤ 10 + 101 * i ∧ ∀ (j : Nat) (x : ByteArray), j < i → A[j]? = some x → nameL (runes x) = true) 0 [] ⟨Nat.zero_le _, hwz, fun j x h => absurd h (Nat.not_lt_zero j)⟩
    ⟨⟨rfl, rfl⟩, ⟨rfl, rfl⟩, ⟨rfl, rfl⟩, ⟨rfl, rfl⟩, ⟨rfl, rfl⟩, ⟨rfl, rfl⟩, trivial⟩ ⟨⟨rfl, .inr ⟨rfl, rfl⟩⟩, trivial⟩ rfl ?_
  intro i hJ
  have hi : i ≤ A.length := hJ.1
  have hsz : (lineS w (A.take i)).size ≤ 10 + 101 * i := hJ.2.1
  have hn2 := hJ.2.2
  clear hJ
  by_cases h1 : i < A.length
  · have hga := srows_get A (List.getElem?_eq_getElem h1)
    have hsucc := lineS_succ w A h1
    generalize lineS w (A.take i) = s at *
    by_cases hs : A[i].size > 100
    · conv => whnf
      first
        | refine caseb (fun _ => ?_) (fun h => absurd (of_decide_eq_false h) (by omega))
        | refine caseb (fun h => absurd (of_decide_eq_true h) (by omega)) (fun _ => ?_)
        | refine caseb (fun _ => ?_) (fun h => absurd (beq_eq_false_iff_ne.1 h) (by omega))
        | refine caseb (fun h => absurd (eq_of_beq h) (by omega)) (fun _ => ?_)
      conv => whnf
      refine ⟨_, ⟨by omega, hga⟩, ?_⟩
      repeat
        conv => whnf
        first
          | refine ⟨_, by assumption, ?_⟩
          | refine ⟨(Nat.le_of_ble_eq_true rfl), _, by assumption, ?_⟩
          | refine ⟨by kernel_rfl, ?_⟩
          | exact rfl
          | exact ⟨Nat.le_of_ble_eq_true rfl, rfl⟩
          | refine ⟨by decide, ?_⟩
          | refine caseb (fun _ => ?_) (fun h => absurd (of_decide_eq_false h) (by omega))
          | refine caseb (fun h => absurd (of_decide_eq_true h) (by omega)) (fun _ => ?_)
          | refine caseb (fun _ => ?_) (fun h => absurd (beq_eq_false_iff_ne.1 h) (by omega))
          | refine caseb (fun h => absurd (eq_of_beq h) (by omega)) (fun _ => ?_)
    · have hrl2 := runes_len A[i]
      have hN := RName_ok (runes A[i]) false (by omega)
      have hil := irows_len .i32 (runes A[i])
      have er : (List.drop 0 (irows .i32 (runes A[i]))).take (runes A[i]).length = irows .i32 (runes A[i]) := by
        rw [List.drop_zero, List.take_of_length_le (by omega)]
      rw [← er] at hN
      conv => whnf
      first
        | refine caseb (fun _ => ?_) (fun h => absurd (of_decide_eq_false h) (by omega))
        | refine caseb (fun h => absurd (of_decide_eq_true h) (by omega)) (fun _ => ?_)
        | refine caseb (fun _ => ?_) (fun h => absurd (beq_eq_false_iff_ne.1 h) (by omega))
        | refine caseb (fun h => absurd (eq_of_beq h) (by omega)) (fun _ => ?_)
      conv => whnf
      refine ⟨_, ⟨by omega, hga⟩, ?_⟩
      conv => whnf
      first
        | refine caseb (fun _ => ?_) (fun h => absurd (of_decide_eq_false h) (by omega))
        | refine caseb (fun h => absurd (of_decide_eq_true h) (by omega)) (fun _ => ?_)
        | refine caseb (fun _ => ?_) (fun h => absurd (beq_eq_false_iff_ne.1 h) (by omega))
        | refine caseb (fun h => absurd (eq_of_beq h) (by omega)) (fun _ => ?_)
      conv => whnf
      refine ⟨_, ⟨by omega, hga⟩, ?_⟩
      conv => whnf
      refine ⟨by show 0 + (runes A[i]).length ≤ _; omega, _, hN, ?_⟩
      by_cases hnm : nameL (runes A[i]) = true
      · rw [hnm]
        have z1 : (s ++ { data := #[32] } : ByteArray).size = s.size + 1 := by rw [ByteArray.size_append, e32]
        have z2 : (s ++ { data := #[32] } ++ A[i] : ByteArray).size = s.size + 1 + A[i].size := by rw [ByteArray.size_append, z1]
        conv => whnf
        refine ⟨by rw [e32]; omega, ?_⟩
        conv => whnf
        refine ⟨_, ⟨by omega, hga⟩, ?_⟩
        conv => whnf
        refine ⟨by rw [z1]; omega, ?_⟩
        conv => whnf
        refine ⟨i + 1, [], (by show A.length - (i + 1) < A.length - i; omega), ⟨(by show i + 1 ≤ A.length; omega), (by show (lineS w (A.take (i + 1))).size ≤ 10 + 101 * (i + 1); rw [hsucc, z2]; omega), fun j x hj hx => ?_⟩, ⟨⟨rfl, rfl⟩, ⟨rfl, rfl⟩, ⟨rfl, rfl⟩, ⟨rfl, rfl⟩, ⟨strE hsucc.symm, rfl⟩, ⟨valI ?_, rfl⟩, trivial⟩, ⟨⟨rfl, .inr ⟨rfl, rfl⟩⟩, trivial⟩, rfl⟩
        · by_cases e : j = i
          · subst e
            rw [List.getElem?_eq_getElem h1] at hx
            rw [← Option.some.inj hx]
            exact hnm
          · exact hn2 j x (by omega) hx
        · show IntKind.i64.wrap ((i : Int) + 1) = ((i + 1 : Nat) : Int)
          rw [IntWalk.i64_in _ (by omega)]; omega
      · have hnm' : nameL (runes A[i]) = false := Bool.eq_false_iff.2 hnm
        rw [hnm']
        repeat
          conv => whnf
          first
            | refine ⟨_, by assumption, ?_⟩
            | refine ⟨(Nat.le_of_ble_eq_true rfl), _, by assumption, ?_⟩
            | refine ⟨by kernel_rfl, ?_⟩
            | exact rfl
            | exact ⟨Nat.le_of_ble_eq_true rfl, rfl⟩
            | refine ⟨by decide, ?_⟩
            | refine caseb (fun _ => ?_) (fun h => absurd (of_decide_eq_false h) (by omega))
            | refine caseb (fun h => absurd (of_decide_eq_true h) (by omega)) (fun _ => ?_)
            | refine caseb (fun _ => ?_) (fun h => absurd (beq_eq_false_iff_ne.1 h) (by omega))
            | refine caseb (fun h => absurd (eq_of_beq h) (by omega)) (fun _ => ?_)
  · have hiA : A.take i = A := List.take_of_length_le (by omega)
    rw [hiA] at hsz ⊢
    have hall : ∀ x ∈ A, nameL (runes x) = true := fun x hx => by
      obtain ⟨q, hq⟩ := List.getElem?_of_mem hx
      have := (List.getElem?_eq_some_iff.1 hq).1
      exact hn2 q x (by omega) hq
    have hwords := words_line hline hall
    have hrs := runes_len (lineS w A)
    have hws := words_small (runes (lineS w A))
    have hP := Parse_ok (runes (lineS w A)) (by omega) (by rw [hwords]; show A.length + 1 < _; omega) (fun x hx => by have := hws x hx; omega)
    rw [hwords, parseO_cons, hkind, if_pos (show (A.all fun s => nameL (runes s)) = true from List.all_eq_true.2 hall)] at hP
    simp only at hP
    have hil := irows_len .i32 (runes (lineS w A))
    have er : (List.drop 0 (irows .i32 (runes (lineS w A)))).take (runes (lineS w A)).length = irows .i32 (runes (lineS w A)) := by
      rw [List.drop_zero, List.take_of_length_le (by omega)]
    rw [← er] at hP
    clear hws hwords hline hkind er hn2 hall
    generalize lineS w A = s at *
    have hT := Texts_ok A (by omega)
    by_cases hc : a ≤ (A.length : Int) ∧ (A.length : Int) ≤ b
    · rw [if_neg (by omega)] at hP
      unfold orderV at hP
      simp only at hP
      conv => whnf
      first
        | refine caseb (fun _ => ?_) (fun h => absurd (of_decide_eq_false h) (by omega))
        | refine caseb (fun h => absurd (of_decide_eq_true h) (by omega)) (fun _ => ?_)
        | refine caseb (fun _ => ?_) (fun h => absurd (beq_eq_false_iff_ne.1 h) (by omega))
        | refine caseb (fun h => absurd (eq_of_beq h) (by omega)) (fun _ => ?_)
      conv => whnf
      refine ⟨by show 0 + (runes s).length ≤ _; omega, _, hP, ?_⟩
      have e1 : IntKind.i64.wrap (1 + Int.tmod (IntKind.i64.wrap y) (RR.length : Int)) = (k : Int) + 1 := by rw [ek, IntWalk.i64_in _ (by omega)]; omega
      have t1 : ((k : Int) + 1 == IntKind.i64.wrap (1 + Int.tmod (IntKind.i64.wrap y) (RR.length : Int))) = true := by rw [e1]; exact beq_self_eq_true _
      have f2 : (!(true == decide (((srows A).length : Int) ≤ b))) = false := by rw [decide_eq_true (by omega)]; rfl
      conv => whnf
      first
        | refine caseb (fun _ => ?_) (fun h => absurd (of_decide_eq_false h) (by omega))
        | refine caseb (fun h => absurd (of_decide_eq_true h) (by omega)) (fun _ => ?_)
        | refine caseb (fun _ => ?_) (fun h => absurd (beq_eq_false_iff_ne.1 h) (by omega))
        | refine caseb (fun h => absurd (eq_of_beq h) (by omega)) (fun _ => ?_)
      conv => whnf
      refine caseb (fun h => Bool.noConfusion ((f2).symm.trans h)) (fun _ => ?_)
      conv => whnf
      refine ⟨by omega, ?_⟩
      conv => whnf
      refine caseb (fun _ => ?_) (fun h => Bool.noConfusion ((t1).symm.trans h))
      conv => whnf
      refine ⟨_, hT, ?_⟩
      conv => whnf
      refine ⟨_, hA, ?_⟩
      conv => whnf
      refine ⟨by kernel_rfl, ?_⟩
      conv => whnf
      exact rfl
    · rw [if_pos (by omega)] at hP
      unfold orderV at hP
      simp only at hP
      conv => whnf
      first
        | refine caseb (fun _ => ?_) (fun h => absurd (of_decide_eq_false h) (by omega))
        | refine caseb (fun h => absurd (of_decide_eq_true h) (by omega)) (fun _ => ?_)
        | refine caseb (fun _ => ?_) (fun h => absurd (beq_eq_false_iff_ne.1 h) (by omega))
        | refine caseb (fun h => absurd (eq_of_beq h) (by omega)) (fun _ => ?_)
      conv => whnf
      refine ⟨by show 0 + (runes s).length ≤ _; omega, _, hP, ?_⟩
      by_cases hca : a ≤ (A.length : Int)
      · have f2 : (!(false == decide (((srows A).length : Int) ≤ b))) = false := by rw [decide_eq_false (by omega)]; rfl
        conv => whnf
        first
          | refine caseb (fun _ => ?_) (fun h => absurd (of_decide_eq_false h) (by omega))
          | refine caseb (fun h => absurd (of_decide_eq_true h) (by omega)) (fun _ => ?_)
          | refine caseb (fun _ => ?_) (fun h => absurd (beq_eq_false_iff_ne.1 h) (by omega))
          | refine caseb (fun h => absurd (eq_of_beq h) (by omega)) (fun _ => ?_)
        conv => whnf
        refine caseb (fun h => Bool.noConfusion ((f2).symm.trans h)) (fun _ => ?_)
        conv => whnf
        refine ⟨_, hA, ?_⟩
        conv => whnf
        refine ⟨by kernel_rfl, ?_⟩
        conv => whnf
        exact rfl
      · conv => whnf
        first
          | refine caseb (fun _ => ?_) (fun h => absurd (of_decide_eq_false h) (by omega))
          | refine caseb (fun h => absurd (of_decide_eq_true h) (by omega)) (fun _ => ?_)
          | refine caseb (fun _ => ?_) (fun h => absurd (beq_eq_false_iff_ne.1 h) (by omega))
          | refine caseb (fun h => absurd (eq_of_beq h) (by omega)) (fun _ => ?_)
        conv => whnf
        refine ⟨_, hA, ?_⟩
        conv => whnf
        refine ⟨by kernel_rfl, ?_⟩
        conv => whnf
        exact rfl

end Go.Proofs.Ytdlonboheckdoaa.orderBack
