/- An abstract program logic over tree values (part 2): type tables, what an operation does to abstract values. -/
import Derived.Test.YtjpefafkejklaaaAL1
set_option linter.unusedVariables false
set_option linter.unusedSimpArgs false
namespace Go.AL
open Go Go.RowKit

inductive SD where
  | int (k : IntKind)
  | bool
  | str
  | slice (e : Nat)
  | struct (fs : List (Nat × Nat))
  | ptr (e : Nat)
  | func
  | other

def sdOf : TypeDesc → SD
  | .int k => .int k
  | .bool => .bool
  | .string => .str
  | .slice e => .slice e
  | .struct fs => .struct (fs.toList.map fun f => (f.offset, f.type))
  | .pointer e => .ptr e
  | .func _ _ _ => .func
  | _ => .other

structure TI where
  d : SD
  size : Nat
  bytes : Nat
  zero : List Value

def TIok (P : Program) (t : Nat) (i : TI) : Prop :=
  ∃ d inf z, P.underlying t = some d ∧ sdOf d = i.d ∧ P.info? t = some inf ∧ inf.size = i.size ∧ inf.bytes = i.bytes ∧ inf.zero = some z ∧ z.cells.toList = i.zero ∧
    i.zero.length = i.size ∧ (i.zero.all Value.oneCell') = true

def TTok (P : Program) (TT : Nat → Option TI) : Prop := ∀ t i, TT t = some i → TIok P t i

def findTI : List (Nat × TI) → Nat → Option TI
  | [], _ => none
  | (k, v) :: l, t => bif Nat.beq k t then some v else findTI l t

theorem TTok_of {P : Program} : ∀ {l : List (Nat × TI)}, (∀ p ∈ l, TIok P p.1 p.2) → TTok P (findTI l)
  | [], _ => fun t i h => by simp [findTI] at h
  | (k, v) :: l, hl => fun t i h => by
    unfold findTI at h
    by_cases e : k = t
    · subst e
      rw [show Nat.beq k k = true from Nat.beq_refl k] at h
      injection h with h
      subst h
      exact hl (k, v) (by simp)
    · rw [beq_ne e] at h
      exact TTok_of (fun p hp => hl p (by simp [hp])) t i h

/-- A constant as an abstract value. -/
def AV.ofV : Value → AV
  | .slice none 0 0 => .sl 0 [] true
  | v => .val v

def AV.cells? : AV → Option (List AV)
  | .agg cs => some cs
  | .val v => bif v.oneCell' then some [.val v] else none
  | .sl a b c => some [.sl a b c]
  | .fp r c => some [.fp r c]
  | .own a b c => some [.own a b c]
  | .lp a b => some [.lp a b]
  | .li a b c => some [.li a b c]
  | .it a => some [.it a]
  | _ => none

def ikeq : IntKind → IntKind → Bool
  | .i8, .i8 | .i16, .i16 | .i32, .i32 | .i64, .i64 | .u8, .u8 | .u16, .u16 | .u32, .u32 | .u64, .u64 => true
  | _, _ => false
theorem ikeq_eq {a b : IntKind} (h : ikeq a b = true) : a = b := by cases a <;> cases b <;> first | rfl | (simp [ikeq] at h)

abbrev Ups := List (Nat × Option LB)
abbrev Accs := List (Nat × Bool)

inductive AR where
  | pure (v : AV)
  | fresh (sz : Nat) (rows : List (List AV))

inductive Res : Type 1 where
  | bad
  | ok0 (v : AV) (u : Ups) (a : Accs)
  | ok (c : Prop) (v : AV) (u : Ups) (a : Accs)
  | ex {α : Type} (p : α → Prop) (k : α → Res)
  | br (b : Bool) (x y : Res)
  | call (f : Nat) (args : List AV) (ps : List Prop) (u : Ups) (a : Accs)

/-- What an operation that calls nothing comes to. -/
def Res.gives : Res → AV → Ups → Accs → Prop
  | .bad, _, _, _ => False
  | .ok0 v u a, v', u', a' => v' = v ∧ u' = u ∧ a' = a
  | .ok c v u a, v', u', a' => c ∧ v' = v ∧ u' = u ∧ a' = a
  | .ex p k, v', u', a' => ∃ x, p x ∧ (k x).gives v' u' a'
  | .br b x y, v', u', a' => (b = true ∧ x.gives v' u' a') ∨ (b = false ∧ y.gives v' u' a')
  | .call _ _ _ _ _, _, _, _ => False

def part (i : TI) (row : List AV) (c : Nat) : AV :=
  match i.d with
  | .struct _ => .agg ((row.drop c).take i.size)
  | .other => .any
  | _ => bif Nat.beq i.size 1 then row.getD c .any else .any

/-- Can a variable of the type be read as a whole? -/
def okd (i : TI) : Bool :=
  match i.d with
  | .struct _ => true
  | .other => false
  | _ => Nat.beq i.size 1

def spl (row : List AV) (c : Nat) (xs : List AV) : List AV := row.take c ++ xs ++ row.drop (c + xs.length)

def byteAt (s : ByteArray) (i : Int) : Int := ((s.data.toList.getD i.toNat 0).toNat : Int)
def bytesL (s : ByteArray) : List Int := s.data.toList.map fun b => (b.toNat : Int)
def strL (ns : List Int) : ByteArray := ⟨(ns.map fun n => UInt8.ofNat n.toNat).toArray⟩
def runesL (s : ByteArray) : Nat → Nat → List Int
  | 0, _ => []
  | b + 1, i => if i < s.size then ((Utf8.decode s i).1 : Int) :: runesL s b (i + (Utf8.decode s i).2) else []
def runes (s : ByteArray) : List Int := runesL s s.size 0
def runesStr (ns : List Int) : ByteArray := ns.foldl (fun s n => s ++ Utf8.encode n) ByteArray.empty
def irows (k : IntKind) (ns : List Int) : List (List AV) := ns.map fun n => [AV.val (.int k n)]

/-- Fills a struct's or a row's cells. -/
def fillA (TT : Nat → Option TI) (place : Nat → Option (Nat × Nat)) (cs : List AV) : List (Nat × AV) → Option (List AV)
  | [] => some cs
  | (i, x) :: rest =>
    match place i, x.cells? with
    | some (off, size), some xs => bif Nat.beq xs.length size && Nat.ble (off + size) cs.length then fillA TT place (spl cs off xs) rest else none
    | _, _ => none

def chunk (sz : Nat) : Nat → List AV → List (List AV)
  | 0, _ => []
  | n + 1, l => l.take sz :: chunk sz n (l.drop sz)

/-- Live blocks among a call's arguments are frozen. -/
def frz (h : Nat → Option LB) : AV → Option (AV × List Prop × Ups × Accs)
  | .own id off len => match h id with
    | some (.cells sz rows) => bif Nat.beq sz 0 then none else some (.sl sz ((rows.drop off).take len) false, [off + len ≤ rows.length], [(id, none)], [(id, true)])
    | _ => none
  | .lp _ _ | .li _ _ _ | .it _ => none
  | x => some (x, [], [], [])
def frzL (h : Nat → Option LB) : List AV → Option (List AV × List Prop × Ups × Accs)
  | [] => some ([], [], [], [])
  | x :: xs => match frz h x with
    | some (x', p, u, a) => match frzL (updsH h u) xs with
      | some (xs', p', u', a') => some (x' :: xs', p ++ p', u ++ u', a ++ a')
      | none => none
    | none => none
def frzA (h : Nat → Option LB) : List AV → Option (List AV × List Prop × Ups × Accs)
  | [] => some ([], [], [], [])
  | .agg cs :: xs => match frzL h cs with
    | some (cs', p, u, a) => match frzA (updsH h u) xs with
      | some (xs', p', u', a') => some (.agg cs' :: xs', p ++ p', u ++ u', a ++ a')
      | none => none
    | none => none
  | x :: xs => match frz h x with
    | some (x', p, u, a) => match frzA (updsH h u) xs with
      | some (xs', p', u', a') => some (x' :: xs', p ++ p', u ++ u', a ++ a')
      | none => none
    | none => none

def rbin (op : BinOp) (i : TI) : Value → Value → Res
  | .int k a, .int k' b => match op with
    | .shl => .ok (0 ≤ b) (.val (.int k (k.wrap (a * 2 ^ (min b.toNat k.bits))))) [] []
    | .shr => .ok (0 ≤ b) (.val (.int k (a.fdiv (2 ^ (min b.toNat k.bits))))) [] []
    | op => bif ikeq k k' then (match op with
      | .add => .ok0 (.val (.int k (k.wrap (a + b)))) [] []
      | .sub => .ok0 (.val (.int k (k.wrap (a - b)))) [] []
      | .mul => .ok0 (.val (.int k (k.wrap (a * b)))) [] []
      | .quo => .ok (b ≠ 0) (.val (.int k (k.wrap (a.tdiv b)))) [] []
      | .rem => .ok (b ≠ 0) (.val (.int k (a.tmod b))) [] []
      | .and => .ok0 (.val (.int k (k.wrap ((BitVec.ofInt k.bits a &&& BitVec.ofInt k.bits b).toNat)))) [] []
      | .or => .ok0 (.val (.int k (k.wrap ((BitVec.ofInt k.bits a ||| BitVec.ofInt k.bits b).toNat)))) [] []
      | .xor => .ok0 (.val (.int k (k.wrap ((BitVec.ofInt k.bits a ^^^ BitVec.ofInt k.bits b).toNat)))) [] []
      | .andNot => .ok0 (.val (.int k (k.wrap ((BitVec.ofInt k.bits a &&& ~~~ BitVec.ofInt k.bits b).toNat)))) [] []
      | .eql => .ok0 (.val (.bool (a == b))) [] []
      | .neq => .ok0 (.val (.bool (a != b))) [] []
      | .lss => .ok0 (.val (.bool (decide (a < b)))) [] []
      | .leq => .ok0 (.val (.bool (decide (a ≤ b)))) [] []
      | .gtr => .ok0 (.val (.bool (decide (a > b)))) [] []
      | .geq => .ok0 (.val (.bool (decide (a ≥ b)))) [] []
      | _ => .bad) else .bad
  | .string a, .string b => match op with
    | .add => .ok (a.size + b.size ≤ 9223372036854775807) (.val (.string (a ++ b))) [] []
    | .eql => .ok0 (.val (.bool (a.toList == b.toList))) [] []
    | .neq => .ok0 (.val (.bool (!(a.toList == b.toList)))) [] []
    | .lss => .ok0 (.val (.bool (Op.bytesLess a.toList b.toList))) [] []
    | .leq => .ok0 (.val (.bool (Op.bytesLess a.toList b.toList || a.toList == b.toList))) [] []
    | .gtr => .ok0 (.val (.bool (!(Op.bytesLess a.toList b.toList || a.toList == b.toList)))) [] []
    | .geq => .ok0 (.val (.bool (!(Op.bytesLess a.toList b.toList)))) [] []
    | _ => .bad
  | .bool a, .bool b => match i.d with
    | .bool => match op with
      | .eql => .ok0 (.val (.bool (a == b))) [] []
      | .neq => .ok0 (.val (.bool (!(a == b)))) [] []
      | _ => .bad
    | _ => .bad
  | _, _ => .bad

def runop (op : UnOp) : Value → Res
  | .int k n => match op with
    | .neg => .ok0 (.val (.int k (k.wrap (0 - n)))) [] []
    | .xor => .ok0 (.val (.int k (k.wrap ((BitVec.ofInt k.bits (if k.signed then -1 else k.max) ^^^ BitVec.ofInt k.bits n).toNat)))) [] []
    | _ => .bad
  | .bool b => match op with
    | .not => .ok0 (.val (.bool (!b))) [] []
    | _ => .bad
  | _ => .bad

/-- The bounds of a slice expression: low, high, and whether the capacity ends at the high one. -/
def bnd (len : Nat) (lo hi mx : Option AV) : Option (Prop × Nat × Nat × Bool) :=
  match lo, hi, mx with
  | none, none, none => some (True, 0, len, false)
  | some (.val (.int _ l)), none, none => some (0 ≤ l ∧ l ≤ (len : Int), l.toNat, len, false)
  | none, some (.val (.int _ h)), none => some (0 ≤ h ∧ h ≤ (len : Int), 0, h.toNat, false)
  | some (.val (.int _ l)), some (.val (.int _ h)), none => some (0 ≤ l ∧ l ≤ h ∧ h ≤ (len : Int), l.toNat, h.toNat, false)
  | none, some (.val (.int _ h)), some (.val (.int _ m)) => some (0 ≤ h ∧ h = m ∧ h ≤ (len : Int), 0, h.toNat, true)
  | some (.val (.int _ l)), some (.val (.int _ h)), some (.val (.int _ m)) => some (0 ≤ l ∧ l ≤ h ∧ h = m ∧ h ≤ (len : Int), l.toNat, h.toNat, true)
  | _, _, _ => none

def rslice (i : TI) (TT : Nat → Option TI) (h : Nat → Option LB) (x : AV) (lo hi mx : Option AV) : Res :=
  match i.d, x with
  | .str, .val (.string s) => match mx with
    | none => match bnd s.size lo hi none with
      | some (c, l, u, _) => .ok c (.val (.string (s.extract l u))) [] []
      | none => .bad
    | some _ => .bad
  | .slice e, .sl sz rows t => match TT e with
    | some j => bif Nat.beq j.size sz || Nat.beq rows.length 0 then match bnd rows.length lo hi mx with
      | some (c, l, u, f) => .ok c (.sl sz ((rows.take u).drop l) f) [] []
      | none => .bad else .bad
    | none => .bad
  | .slice e, .own id off len => match TT e, h id with
    | some j, some (.cells sz rows) => bif Nat.beq j.size sz then match bnd len lo hi mx with
      | some (c, l, u, f) => bif f then .bad else .ok c (.own id (off + l) (u - l)) [] [(id, false)]
      | none => .bad else .bad
    | _, _ => .bad
  | _, _ => .bad

def rload (i : TI) (h : Nat → Option LB) : AV → Res
  | .lp id c => match h id with
    | some (.cells _ [row]) => bif okd i && Nat.ble (c + i.size) row.length then .ok0 (part i row c) [] [(id, false)] else .bad
    | _ => .bad
  | .li id r c => match h id with
    | some (.cells sz rows) => bif okd i && Nat.ble (c + i.size) sz then .ex (fun row : List AV => rows[r]? = some row) fun row => .ok0 (part i row c) [] [(id, false)] else .bad
    | _ => .bad
  | .fp row c => bif okd i && Nat.ble (c + i.size) row.length then .ok0 (part i row c) [] [] else .bad
  | _ => .bad

def rstore (i : TI) (h : Nat → Option LB) (xs : List AV) : AV → Res
  | .lp id c => match h id with
    | some (.cells sz [row]) => bif Nat.ble (c + i.size) row.length then .ok0 .any [(id, some (.cells sz [spl row c xs]))] [(id, true)] else .bad
    | _ => .bad
  | .li id r c => match h id with
    | some (.cells sz rows) => bif Nat.beq i.size sz && Nat.beq c 0 then .ok (r < rows.length) .any [(id, some (.cells sz (rows.set r xs)))] [(id, true)]
      else bif Nat.ble (c + i.size) sz then .ex (fun row : List AV => rows[r]? = some row) fun row => .ok0 .any [(id, some (.cells sz (rows.set r (spl row c xs))))] [(id, true)] else .bad
    | _ => .bad
  | _ => .bad

def rindexAddr (j : TI) (h : Nat → Option LB) (i : Int) : AV → Res
  | .sl sz rows _ => bif Nat.beq j.size sz then .ex (fun row : List AV => 0 ≤ i ∧ rows[i.toNat]? = some row) fun row => .ok0 (.fp row 0) [] [] else .bad
  | .own id off len => match h id with
    | some (.cells sz _) => bif Nat.beq j.size sz then .ok (0 ≤ i ∧ i < (len : Int)) (.li id (off + i.toNat) 0) [] [(id, false)] else .bad
    | _ => .bad
  | _ => .bad

def rconv (TT : Nat → Option TI) (base : Nat) (h : Nat → Option LB) (a b : TI) (x : AV) : Res :=
  match b.d, x with
  | .int k, .val (.int _ n) => .ok0 (.val (.int k (k.wrap n))) [] []
  | .str, .val (.int _ n) => .ok0 (.val (.string (Utf8.encode n))) [] []
  | .str, .val (.string s) => .ok0 (.val (.string s)) [] []
  | .slice e, .val (.string s) => match a.d, TT e with
    | .str, some j => match j.d with
      | .int .u8 => .ok0 (.sl 1 (irows .u8 (bytesL s)) false) [] []
      | .int .i32 => .ok0 (.own base 0 (runes s).length) [(base, some (.cells 1 (irows .i32 (runes s))))] []
      | _ => .bad
    | _, _ => .bad
  | .str, .sl sz rows _ => match a.d with
    | .slice e => match TT e with
      | some j => match j.d with
        | .int .u8 => .ex (fun ns : List Int => rows = irows .u8 ns) fun ns => .ok0 (.val (.string (strL ns))) [] []
        | .int .i32 => .ex (fun ns : List Int => rows = irows .i32 ns) fun ns => .ok0 (.val (.string (runesStr ns))) [] []
        | _ => .bad
      | none => .bad
    | _ => .bad
  | .str, .own id off len => match a.d, h id with
    | .slice e, some (.cells sz rows) => match TT e with
      | some j => match j.d with
        | .int .u8 => .ex (fun ns : List Int => off + len ≤ rows.length ∧ (rows.drop off).take len = irows .u8 ns) fun ns => .ok0 (.val (.string (strL ns))) [] [(id, false)]
        | .int .i32 => .ex (fun ns : List Int => off + len ≤ rows.length ∧ (rows.drop off).take len = irows .i32 ns) fun ns => .ok0 (.val (.string (runesStr ns))) [] [(id, false)]
        | _ => .bad
      | none => .bad
    | _, _ => .bad
  | _, _ => .bad

/-- What is appended: the rows, what must hold of them, what is read. -/
def rsrc (h : Nat → Option LB) : AV → Option (Nat × List (List AV) × List Prop × Accs)
  | .sl sz rows _ => some (sz, rows, [], [])
  | .own id off len => match h id with
    | some (.cells sz rows) => some (sz, (rows.drop off).take len, [off + len ≤ rows.length], [(id, false)])
    | _ => none
  | .val (.string s) => some (1, irows .u8 (bytesL s), [], [])
  | _ => none

def allP : List Prop → Prop
  | [] => True
  | [p] => p
  | p :: l => p ∧ allP l

def rappend (j : TI) (base : Nat) (h : Nat → Option LB) (x y : AV) : Res :=
  match rsrc h y with
  | some (sz', ys, ps, acc) => bif (Nat.beq j.size sz' || Nat.beq ys.length 0) && !Nat.beq j.bytes 0 then
    match x with
    | .sl sz rows true => bif Nat.beq j.size sz || Nat.beq rows.length 0 then
        .ok (allP ((rows = [] ∨ ys ≠ []) :: ((rows.length + ys.length) * j.bytes ≤ 140737488355328) :: ps)) (.own base 0 (rows.length + ys.length)) [(base, some (.cells j.size (rows ++ ys)))] acc else .bad
    | .own id off len => match h id with
      | some (.cells sz rows) => bif Nat.beq j.size sz then
          .ok (allP ((off + len ≤ rows.length) :: ((len + ys.length) * j.bytes ≤ 140737488355328) :: ps)) (.own base 0 (len + ys.length)) [(id, none), (base, some (.cells j.size ((rows.drop off).take len ++ ys)))] ((id, true) :: acc) else .bad
      | _ => .bad
    | _ => .bad else .bad
  | none => .bad

def rcopy (j : TI) (h : Nat → Option LB) (x y : AV) : Res :=
  match rsrc h y, x with
  | some (sz', ys, ps, acc), .own id off len => match h id with
    | some (.cells sz rows) => bif Nat.beq j.size sz' && Nat.beq j.size sz then
        .ok (allP ((off + len ≤ rows.length) :: ps)) (.val (.int .i64 (Nat.min ys.length len))) [(id, some (.cells sz (rows.take off ++ ys.take (Nat.min ys.length len) ++ rows.drop (off + Nat.min ys.length len))))] ((id, true) :: acc) else .bad
    | _ => .bad
  | _, _ => .bad

def rlen (i : TI) (x : AV) : Res :=
  match i.d, x with
  | .slice _, .sl _ rows _ => .ok0 (.val (.int .i64 rows.length)) [] []
  | .slice _, .own _ _ len => .ok0 (.val (.int .i64 len)) [] []
  | .str, .val (.string s) => .ok0 (.val (.int .i64 s.size)) [] []
  | _, _ => .bad

def rmin : List AV → Res
  | [.val (.int k a), .val (.int k' b)] => bif ikeq k k' then .ok0 (.val (.int k (if b < a then b else a))) [] [] else .bad
  | _ => .bad
def rmax : List AV → Res
  | [.val (.int k a), .val (.int k' b)] => bif ikeq k k' then .ok0 (.val (.int k (if b > a then b else a))) [] [] else .bad
  | _ => .bad

def rcall (TT : Nat → Option TI) (ev : Operand → AV) (h : Nat → Option LB) (base : Nat) (c : Call) : Res :=
  match c.callee with
  | .builtin b => match b, c.args.toList.map ev, c.argTypes.toList with
    | .len, [x], t :: _ => match TT t with
      | some i => rlen i x
      | none => .bad
    | .append, [x, y], [t, u] => match TT t with
      | some i => match i.d with
        | .slice e => match TT e, TT u with
          | some j, some k => match k.d with
            | .slice _ => rappend j base h x y
            | .str => rappend j base h x y
            | _ => .bad
          | _, _ => .bad
        | _ => .bad
      | none => .bad
    | .copy, [x, y], t :: _ => match TT t with
      | some i => match i.d with
        | .slice e => match TT e with
          | some j => rcopy j h x y
          | none => .bad
        | _ => .bad
      | none => .bad
    | .min, l, _ => rmin l
    | .max, l, _ => rmax l
    | _, _, _ => .bad
  | .value f => match ev f with
    | .val (.func (.func g) ⟨[]⟩ ⟨[]⟩) => match frzA h (c.args.toList.map ev) with
      | some (args, ps, u, a) => .call g args ps u a
      | none => .bad
    | _ => .bad
  | .invoke _ _ => .bad

def aop (TT : Nat → Option TI) (o : Oper) (ev : Operand → AV) (h : Nat → Option LB) (base : Nat) : Res :=
  match o.op with
  | .move x | .assign x => .ok0 (ev x) [] []
  | .pick c a b => match ev c with
    | .val (.bool p) => .br p (.ok0 (ev a) [] []) (.ok0 (ev b) [] [])
    | _ => .bad
  | .alloc e => match TT e with
    | some i => .ok0 (.lp base 0) [(base, some (.cells i.size [i.zero.map AV.ofV]))] []
    | none => .bad
  | .box e x => match (ev x).cells? with
    | some cs => .ok0 (.lp base 0) [(base, some (.cells cs.length [cs]))] []
    | none => .bad
  | .build t parts => match TT t with
    | some i => match i.d with
      | .struct fs => bif fs.all (fun p => (TT p.2).isSome) then match fillA TT (fun k => match fs[k]? with | some (off, ft) => (TT ft).map fun q => (off, q.size) | none => none) (i.zero.map AV.ofV) (parts.toList.map fun p => (p.1, ev p.2)) with
        | some cs => .ok0 (.agg cs) [] []
        | none => .bad else .bad
      | _ => .bad
    | none => .bad
  | .buildSlice t len parts => match TT t with
    | some i => match i.d with
      | .slice e => match TT e with
        | some j => bif Nat.ble (len * j.size) 16777216 && !Nat.beq j.size 0 then match fillA TT (fun k => some (k * j.size, j.size)) (List.replicate len (j.zero.map AV.ofV)).flatten (parts.toList.map fun p => (p.1, ev p.2)) with
          | some cs => .ok0 (.own base 0 len) [(base, some (.cells j.size (chunk j.size len cs)))] []
          | none => .bad else .bad
        | none => .bad
      | _ => .bad
    | none => .bad
  | .load t x => match TT t with
    | some i => rload i h (ev x)
    | none => .bad
  | .store t x y => match TT t, (ev y).cells? with
    | some i, some xs => bif Nat.beq xs.length i.size && !Nat.beq i.size 0 then rstore i h xs (ev x) else .bad
    | _, _ => .bad
  | .nilCheck x => match ev x with
    | .lp a b => .ok0 (.lp a b) [] []
    | .li a b c => .ok0 (.li a b c) [] []
    | .fp a b => .ok0 (.fp a b) [] []
    | .val (.func (.func g) a b) => .ok0 (.val (.func (.func g) a b)) [] []
    | _ => .bad
  | .binOp op xt x y _ => match TT xt, ev x, ev y with
    | some i, .val a, .val b => rbin op i a b
    | _, _, _ => .bad
  | .unOp op _ x => match ev x with
    | .val a => runop op a
    | _ => .bad
  | .convert s d x => match TT s, TT d with
    | some a, some b => rconv TT base h a b (ev x)
    | _, _ => .bad
  | .makeSlice t l c => match TT t with
    | some i => match i.d with
      | .slice e => match TT e, ev l, ev c with
        | some j, .val (.int kl n), .val (.int kc m) => bif ikeq kl .i64 && ikeq kc .i64 && !Nat.beq j.bytes 0 then
            .ok (0 ≤ n ∧ n ≤ m ∧ m * j.bytes ≤ 140737488355328) (.own base 0 n.toNat) [(base, some (.cells j.size (List.replicate n.toNat (j.zero.map AV.ofV))))] [] else .bad
        | _, _, _ => .bad
      | _ => .bad
    | none => .bad
  | .slice t x lo hi mx => match TT t with
    | some i => rslice i TT h (ev x) (lo.map ev) (hi.map ev) (mx.map ev)
    | none => .bad
  | .fieldAddr s x f => match TT s with
    | some i => match i.d with
      | .struct fs => match fs[f]? with
        | some (off, ft) => match TT ft with
          | some q => bif Nat.beq q.size 0 then .bad else match ev x with
            | .lp id c => .ok0 (.lp id (c + off)) [] []
            | .li id r c => .ok0 (.li id r (c + off)) [] []
            | .fp row c => .ok0 (.fp row (c + off)) [] []
            | _ => .bad
          | none => .bad
        | none => .bad
      | _ => .bad
    | none => .bad
  | .field s x f => match TT s with
    | some i => match i.d with
      | .struct fs => match fs[f]?, ev x with
        | some (off, ft), .agg cs => match TT ft with
          | some q => bif okd q && Nat.ble (off + q.size) cs.length then .ok0 (part q cs off) [] [] else .bad
          | none => .bad
        | _, _ => .bad
      | _ => .bad
    | none => .bad
  | .indexAddr t x ix => match TT t with
    | some i => match i.d with
      | .slice e => match TT e, ev ix with
        | some j, .val (.int _ n) => rindexAddr j h n (ev x)
        | _, _ => .bad
      | _ => .bad
    | none => .bad
  | .index t x ix => match TT t, ev x, ev ix with
    | some i, .val (.string s), .val (.int _ n) => match i.d with
      | .str => .ok (0 ≤ n ∧ n < (s.size : Int)) (.val (.int .u8 (byteAt s n))) [] []
      | _ => .bad
    | _, _, _ => .bad
  | .range t x => match TT t, ev x with
    | some i, .val (.string s) => match i.d with
      | .str => .ok0 (.it base) [(base, some (.iter s 0))] []
      | _ => .bad
    | _, _ => .bad
  | .next x true => match ev x with
    | .it id => match h id with
      | some (.iter s pos) => .br (decide (pos < s.size))
          (.ok0 (.tup [.val (.bool true), .val (.int .i64 pos), .val (.int .i32 (Utf8.decode s pos).1)]) [(id, some (.iter s (pos + (Utf8.decode s pos).2)))] [(id, true)])
          (.ok0 (.tup [.val (.bool false)]) [] [(id, false)])
      | _ => .bad
    | _ => .bad
  | .extract x i => match ev x with
    | .tup cs => match cs[i]? with
      | some v => .ok0 v [] []
      | none => .bad
    | _ => .bad
  | .call c => rcall TT ev h base c
  | _ => .bad

end Go.AL
