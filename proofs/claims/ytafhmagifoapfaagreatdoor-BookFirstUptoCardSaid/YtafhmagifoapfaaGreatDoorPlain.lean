/- Plain: the characters of a text, by the model's own decode, over lists of bytes. -/
import GoSem.Core.Utf8
import Derived.Lib.RuneBytes
import Derived.Lib.Strings
import Derived.Lib.SlTrimSet
import Derived.Lib.IndexMore
import Derived.Lib.Replace
import Derived.Lib.FieldsP
import Derived.Lib.Join
namespace Go.Proofs.YtafhmagifoapfaaGreatDoor.Find
open Go
/-- The first character of a text: its number, how many bytes. -/
def decL (l : List UInt8) : Nat × Nat :=
  let g (k : Nat) : Nat := (l.getD k 0).toNat
  let cont (k : Nat) : Bool := decide (k < l.length) && g k / 64 == 2
  let b0 := g 0
  if b0 < 0x80 then (b0, 1)
  else if b0 / 32 == 6 && cont 1 then
    let c := (b0 % 32) * 64 + g 1 % 64
    if c ≥ 0x80 then (c, 2) else (0xFFFD, 1)
  else if b0 / 16 == 14 && cont 1 && cont 2 then
    let c := (b0 % 16) * 4096 + (g 1 % 64) * 64 + g 2 % 64
    if c ≥ 0x800 && Utf8.valid c then (c, 3) else (0xFFFD, 1)
  else if b0 / 8 == 30 && cont 1 && cont 2 && cont 3 then
    let c := (b0 % 8) * 262144 + (g 1 % 64) * 4096 + (g 2 % 64) * 64 + g 3 % 64
    if c ≥ 0x10000 && Utf8.valid c then (c, 4) else (0xFFFD, 1)
  else (0xFFFD, 1)
theorem get_drop (s : ByteArray) (i k : Nat) : s.get! (i + k) = (s.data.toList.drop i).getD k 0 := by
  show s.data[i + k]! = _
  rw [List.getD_eq_getElem?_getD, List.getElem?_drop, getElem!_def]
  by_cases h : i + k < s.data.size
  · rw [Array.getElem?_eq_getElem h, List.getElem?_eq_getElem (by simpa using h)]; simp
  · rw [Array.getElem?_eq_none (by omega), List.getElem?_eq_none (by rw [Array.length_toList]; omega)]; rfl
theorem decode_eq (s : ByteArray) (i : Nat) : Utf8.decode s i = decL (s.data.toList.drop i) := by
  unfold Utf8.decode decL
  have hc : ∀ k, decide (i + k < s.size) = decide (k < (s.data.toList.drop i).length) := fun k => by
    have h1 : s.size = s.data.toList.length := by show s.data.size = _; simp
    rw [decide_eq_decide, List.length_drop, h1]; omega
  simp only [get_drop, hc, Utf8.runeError]
abbrev Ch := Nat × List UInt8
def charsF : Nat → List UInt8 → List Ch
  | 0, _ => []
  | f + 1, l => if l = [] then [] else ((decL l).1, l.take (decL l).2) :: charsF f (l.drop (decL l).2)
def chars (l : List UInt8) : List Ch := charsF l.length l
theorem decL_pos (l : List UInt8) : 1 ≤ (decL l).2 := by
  unfold decL
  simp only
  repeat' split
  all_goals simp
theorem decL_len (l : List UInt8) (h : l ≠ []) : (decL l).2 ≤ l.length := by
  have h0 : 0 < l.length := List.length_pos_iff.2 h
  unfold decL
  simp only [Bool.and_eq_true, decide_eq_true_eq]
  repeat' split
  all_goals first | omega | (simp only; omega)
theorem valid_iff (r : Int) : Utf8.valid r = true ↔ (0 ≤ r ∧ r < 55296) ∨ (57344 ≤ r ∧ r ≤ 1114111) := by
  simp [Utf8.valid]
theorem decL_valid (l : List UInt8) : Utf8.valid (decL l).1 = true := by
  have hb : ∀ k, (l.getD k 0).toNat < 256 := fun k => UInt8.toNat_lt _
  have h0 := hb 0
  have h1 := hb 1
  unfold decL
  generalize (l.getD 0 0).toNat = a at *
  generalize (l.getD 1 0).toNat = b at *
  simp only [Bool.and_eq_true, decide_eq_true_eq]
  split
  · simp only [valid_iff]; omega
  split
  · split
    · simp only [valid_iff]; omega
    · rfl
  split
  · split
    · rename_i h; exact h.2
    · rfl
  split
  · split
    · rename_i h; exact h.2
    · rfl
  · rfl
end Go.Proofs.YtafhmagifoapfaaGreatDoor.Find
namespace Go.Proofs.YtafhmagifoapfaaGreatDoor.Bk
open Go Find
abbrev Wd := List UInt8
structure Tok where
  kind : Nat
  name : Wd
  text : Wd
  line : Nat
  col : Nat
structure Brc where
  name : Wd
  line : Nat
  col : Nat
/-- The lexer. -/
structure LS where
  out : List Tok
  opn : List Brc
  ins : Nat
  run : Tok
  b0 : Nat
  b1 : Nat
  fresh : Nat
  line : Nat
def Tok.zero : Tok := ⟨0, [], [], 0, 0⟩
/-- A fault of a source. -/
structure Flt where
  code : Nat
  line : Nat
  col : Nat
  word : Wd
def LS.flush (s : LS) : LS := if s.run.text = [] then { s with run := Tok.zero } else { s with out := s.out ++ [s.run], run := Tok.zero }
def LS.put (s : LS) (x : Wd) (l c : Nat) : LS :=
  if s.run.text = [] then { s with run := ⟨6, [], x, l, c⟩ } else { s with run := { s.run with text := s.run.text ++ x } }
def LS.settle (s : LS) : LS := if s.b0 = 0 ∧ s.b1 = 0 then { s with fresh := 0 } else { s.put [32] s.b0 s.b1 with b0 := 0, b1 := 0, fresh := 0 }
def LS.wait (s : LS) (col : Nat) : LS := if s.fresh = 0 ∧ s.b0 = 0 ∧ s.b1 = 0 then { s with b0 := s.line, b1 := col } else s
def LS.push (s : LS) (t : Tok) : LS := { s with out := s.out ++ [t] }
def LS.token (s : LS) (kind : Nat) (name : Wd) (col : Nat) : LS := s.settle.flush.push ⟨kind, name, [], s.line, col⟩
def LS.fin (s : LS) : Except Flt LS :=
  if s.ins = 0 then .ok s else match s.opn.getLast? with
    | some b => .error ⟨45, b.line, b.col, b.name⟩
    | none => .ok { s.flush with ins := 0, b0 := 0, b1 := 0 }
/-- How many letters a text begins with. -/
def nameF : Wd → Nat
  | [] => 0
  | c :: l => if 97 ≤ c ∧ c ≤ 122 then nameF l + 1 else 0
def blk (c : UInt8) : Bool := c == 9 || c == 32
def escs : Wd := [92, 123, 125, 124, 46, 35]
/-- An escape; 'l': the line. -/
def LS.escape (s : LS) (l : Wd) (i : Nat) : Except Flt (Nat × LS) :=
  match l[i + 1]? with
  | some c => if c ∈ escs then .ok (2, s.settle.put [c] s.line (i + 1)) else .error ⟨42, s.line, i + 1, (l.drop (i + 1)).take (decL (l.drop (i + 1))).2⟩
  | none => .error ⟨42, s.line, i + 1, []⟩
def LS.brace (s : LS) (l : Wd) (i : Nat) : Except Flt (Nat × LS) :=
  let n := nameF (l.drop (i + 1))
  let ok := match l[i + 1 + n]? with
    | some c => blk c || c == 124 || c == 125
    | none => true
  if n = 0 ∨ 12 < n ∨ ok = false then .error ⟨43, s.line, i + 1, []⟩
  else if 16 ≤ s.opn.length then .error ⟨46, s.line, i + 1, (l.drop (i + 1)).take n⟩
  else .ok (1 + n, { s.token 3 ((l.drop (i + 1)).take n) (i + 1) with opn := s.opn ++ [⟨(l.drop (i + 1)).take n, s.line, i + 1⟩], fresh := 1 })
/-- What stands at a place of a line. -/
def LS.char (s : LS) (l : Wd) (i : Nat) : Except Flt (Nat × LS) :=
  let c := l.getD i 0
  if blk c then .ok (1, s.wait (i + 1))
  else if c = 92 then s.escape l i
  else if c = 123 then s.brace l i
  else if c = 125 then (if s.opn = [] then .error ⟨44, s.line, i + 1, []⟩ else .ok (1, { s.token 5 [] (i + 1) with opn := s.opn.dropLast }))
  else if c = 124 ∧ s.opn ≠ [] then .ok (1, s.token 4 [] (i + 1))
  else .ok ((decL (l.drop i)).2, s.settle.put ((l.drop i).take (decL (l.drop i)).2) s.line (i + 1))
def LS.chars (l : Wd) : Nat → LS → Nat → Except Flt LS
  | 0, s, _ => .ok s
  | f + 1, s, i => if i < l.length then (match s.char l i with
    | .ok (n, s) => LS.chars l f s (i + n)
    | .error e => .error e) else .ok s
/-- A line of text. -/
def LS.text (s : LS) (l : Wd) : Except Flt LS :=
  match LS.chars l (l.length + 1) (if s.ins = 0 then { s with ins := 1, fresh := 1 } else s) 0 with
  | .ok s => .ok (s.wait (l.length + 1))
  | .error e => .error e
/-- Blanks cut off both ends. -/
def trimB (l : Wd) : Wd := Lib.trimS l [32, 9]
def LS.directive (s : LS) (l : Wd) : Except Flt LS :=
  let n := nameF l.tail
  let rest := l.drop (1 + n)
  if n = 0 ∨ 12 < n ∨ (match rest with
    | c :: _ => blk c
    | [] => true) = false then .error ⟨41, s.line, 2, l.tail.take (min n 12)⟩
  else match s.fin with
    | .error e => .error e
    | .ok s => .ok (s.push ⟨1, l.tail.take n, trimB rest, s.line, 1⟩)
/-- A character that may not be: control, or a bad byte. -/
def badC (r n : Nat) : Bool := (decide (r < 32) || (decide (127 ≤ r) && decide (r ≤ 159))) || (r == 65533 && n == 1)
/-- Where the first of them stands. -/
def plainAt : Nat → Wd → Nat → Option Nat
  | 0, _, _ => none
  | f + 1, l, i => if l = [] then none else if badC (decL l).1 (decL l).2 then some i else plainAt f (l.drop (decL l).2) (i + (decL l).2)
def untab (l : Wd) : Wd := Lib.replaceAll l [9] [32]
def LS.check (s : LS) (l : Wd) : Option Flt :=
  if 4096 < l.length then some ⟨2, s.line, 1, []⟩
  else match plainAt (untab l).length (untab l) 0 with
    | some at_ => some ⟨40, s.line, at_ + 1, []⟩
    | none => none
def LS.para (s : LS) : Except Flt LS := match s.fin with
  | .error e => .error e
  | .ok s => .ok (s.push ⟨2, [], [], s.line, 1⟩)
/-- A line. -/
def LS.take (s : LS) (l : Wd) : Except Flt LS :=
  match s.check l with
  | some e => .error e
  | none => if Lib.hasPrefix l [35] then .ok s else if trimB l = [] then s.para else if l.getD 0 0 = 46 then s.directive l else s.text l
/-- A line's end: the line without its feed and return. -/
def cutLn (s : Wd) : Wd × Wd × Bool := Lib.cut s [10]
def chopCR (l : Wd) : Wd := Lib.trimSuffix l [13]
def LS.lines : Nat → LS → Wd → Except Flt LS
  | 0, s, _ => .ok s
  | f + 1, s, t => if t = [] then .ok s else
    let c := cutLn t
    match { s with line := s.line + 1 }.take (chopCR c.1) with
    | .error e => .error e
    | .ok s => LS.lines f s c.2.1
def LS.zero : LS := ⟨[], [], 0, Tok.zero, 0, 0, 0, 0⟩
def lexM (t : Wd) : Except Flt (List Tok) :=
  if 65536 < t.length then .error ⟨2, 0, 0, []⟩
  else match LS.lines (t.length + 1) LS.zero t with
    | .error e => .error e
    | .ok s => match s.fin with
      | .error e => .error e
      | .ok s => .ok s.out
end Go.Proofs.YtafhmagifoapfaaGreatDoor.Bk
namespace Go.Proofs.YtafhmagifoapfaaGreatDoor.Bk
open Go
/-- Blanks and tabs: one blank for each run of them, none at the ends. -/
def sepR (r : Nat) : Bool := r == 32 || r == 9
def tidyF (s : Wd) : Wd := Lib.join ((Lib.goFieldsP sepR ⟨s.toArray⟩).map (·.data.toList)) [32]
def fitsF (s : Wd) (most : Nat) : Bool := !s.isEmpty && decide (s.length ≤ most)
def digitsF : Wd → Nat → Option Nat
  | [], n => some n
  | c :: l, n => if 48 ≤ c ∧ c ≤ 57 then digitsF l (10 * n + (c.toNat - 48)) else none
/-- A number without a nought ahead. -/
def numberF (s : Wd) (least most : Nat) : Option Nat :=
  if s = [] ∨ 4 < s.length ∨ (s.getD 0 0 = 48 ∧ s ≠ [48]) then none
  else match digitsF s 0 with
    | some n => if least ≤ n ∧ n ≤ most then some n else none
    | none => none
/-- A piece of a paragraph: its kind, how many bytes its text has. -/
abbrev Pc := Nat × Nat
/-- A list or a table that is open. -/
structure Lvl where
  table : Nat
  items : Nat
  rows : Nat
  cells : Nat
  widths : Nat
  tok : Tok
/-- The topic that has begun last. -/
structure Top where
  kind : Nat
  level : Nat
  nk : Nat
  ns : Nat
  line : Nat
  blks : List (List Pc)
structure PS where
  nst : Nat
  ntop : Nat
  cur : Option Top
  opn : List Lvl
  para : Option Tok
def Tok.flt (t : Tok) (code : Nat) : Flt := ⟨code, t.line, t.col, t.name⟩
def bytesB (l : List Pc) : Nat := (l.map fun x => if x.1 = 1 then x.2 else 0).sum
def bytesF (l : List (List Pc)) : Nat := (l.map bytesB).sum
/-- The pieces of a paragraph; 'ks': what is open, 'lk': whether a link is. -/
def piecesF : Nat → List Tok → List Pc → List Nat → Nat → Except Flt (List Pc)
  | 0, _, out, _, _ => .ok out
  | f + 1, l, out, ks, lk => match l with
    | [] => .ok out
    | t :: l =>
      if t.kind = 6 then piecesF f l (out ++ [(1, t.text.length)]) ks lk
      else if t.kind = 5 then piecesF f l (out ++ [(5, 0)]) ks.dropLast (if ks.getLast? = some 3 ∨ ks.getLast? = some 4 then 0 else lk)
      else if t.kind = 4 then .error ⟨55, t.line, t.col, []⟩
      else if t.name = [116, 97, 98] ∨ t.name = [98, 114] then (match l with
        | c :: r => if c.kind = 5 then piecesF f r (out ++ [(if t.name = [98, 114] then 7 else 6, 0)]) ks lk else .error (t.flt 55)
        | [] => .error (t.flt 55))
      else if t.name = [108, 105, 110, 107] ∨ t.name = [110, 111, 116, 101] then (match l with
        | a :: c :: r =>
          if lk = 1 ∨ a.kind ≠ 6 ∨ (c.kind ≠ 4 ∧ c.kind ≠ 5) then .error (t.flt 55)
          else if fitsF (tidyF a.text) 64 = false then .error (t.flt 55)
          else
            let k := if t.name = [110, 111, 116, 101] then 4 else 3
            if c.kind = 5 then piecesF f r (out ++ [(k, 0)] ++ [(1, (tidyF a.text).length), (5, 0)]) ks lk
            else piecesF f r (out ++ [(k, 0)]) (ks ++ [k]) 1
        | _ => .error (t.flt 55))
      else piecesF f l (out ++ [(2, 0)]) (ks ++ [2]) lk
namespace PS
def last (s : PS) : Option Lvl := s.opn.getLast?
def inItem (s : PS) : Bool := match s.last with
  | some l => l.table == 0 && decide (0 < l.items)
  | none => false
def inRow (s : PS) : Bool := match s.last with
  | some l => l.table == 1 && decide (0 < l.rows)
  | none => false
def mayPara (s : PS) : Bool := s.cur.isSome && (s.last.isNone || s.inItem || (s.inRow && match s.last with
  | some l => decide (l.cells < l.widths)
  | none => false))
def mayList (s : PS) : Bool := s.cur.isSome && (s.last.isNone || s.inItem)
def fresh (s : PS) : Bool := match s.cur with
  | some t => t.kind == 0 && t.blks.isEmpty
  | none => false
/-- A block more. -/
def add (s : PS) (b : List Pc) : PS := { s with cur := s.cur.map fun t => { t with blks := t.blks ++ [b] } }
def setLast (s : PS) (f : Lvl → Lvl) : PS := { s with opn := match s.last with
  | some l => s.opn.dropLast ++ [f l]
  | none => [] }
def close (s : PS) : Except Flt PS := match s.last with
  | some l => .error (l.tok.flt 53)
  | none => match s.cur with
    | some t => if 16384 < bytesF t.blks then .error ⟨2, t.line, 1, if t.kind = 1 then [110, 111, 116, 101] else [116, 111, 112, 105, 99]⟩ else .ok s
    | none => .ok s
def begin_ (s : PS) (t : Tok) (arg : Wd) (kind : Nat) : Except Flt PS :=
  let c := Lib.cut arg [124]
  let name := tidyF c.1
  let title := if c.2.2 then tidyF c.2.1 else name
  if fitsF name 64 = false ∨ fitsF title 200 = false then .error (t.flt 51)
  else if 1000 ≤ s.ntop then .error (t.flt 2)
  else .ok { s with ntop := s.ntop + 1, cur := some ⟨kind, 0, 0, 0, t.line, []⟩ }
def key (s : PS) (t : Tok) (arg : Wd) : Except Flt PS :=
  let c := Lib.cut arg [59]
  if fitsF (tidyF c.1) 64 = false ∨ (c.2.2 = true ∧ fitsF (tidyF c.2.1) 64 = false) then .error (t.flt 51)
  else match s.cur with
    | some k => if 64 ≤ k.nk then .error (t.flt 2) else .ok { s with cur := some { k with nk := k.nk + 1 } }
    | none => .ok s
def see (s : PS) (t : Tok) (arg : Wd) : Except Flt PS :=
  let c := Lib.cut arg [45, 62]
  if c.2.2 = false ∨ fitsF (tidyF c.1) 64 = false ∨ fitsF (tidyF c.2.1) 64 = false then .error (t.flt 51)
  else match s.cur with
    | some k => if 64 ≤ k.ns then .error (t.flt 2) else .ok { s with cur := some { k with ns := k.ns + 1 } }
    | none => .ok s
def lettersF (l : Wd) : Bool := l.all fun c => 97 ≤ c && c ≤ 122
def splitF (l : Wd) : List Wd := (Lib.splitB ⟨#[32]⟩ 0 (Lib.countB ⟨l.toArray⟩ ⟨#[32]⟩) ⟨l.toArray⟩).map (·.data.toList)
/-- What each directive does; 'arg': its tidied argument. -/
def style (s : PS) (t : Tok) (arg : Wd) : Except Flt PS := if arg = [] then .error (t.flt 51) else if 64 ≤ s.nst then .error (t.flt 2) else .ok { s with nst := s.nst + 1 }
def contents (s : PS) (t : Tok) (arg : Wd) : Except Flt PS := match numberF arg 1 8 with
  | some n => .ok { s with cur := s.cur.map fun c => { c with level := n } }
  | none => .error (t.flt 51)
def para_ (s : PS) (t : Tok) (arg : Wd) : Except Flt PS := if fitsF arg 12 && lettersF arg then .ok { s with para := some { t with text := arg } } else .error (t.flt 51)
def list (s : PS) (t : Tok) (arg : Wd) : Except Flt PS :=
  if arg = [98, 117, 108, 108, 101, 116] ∨ arg = [110, 117, 109, 98, 101, 114] then (if 8 ≤ s.opn.length then .error (t.flt 2) else .ok (PS.add { s with opn := s.opn ++ [⟨0, 0, 0, 0, 0, t⟩] } []))
  else .error (t.flt 51)
def item (s : PS) (t : Tok) (arg : Wd) : Except Flt PS := if arg = [] then .ok ((s.setLast fun l => { l with items := l.items + 1 }).add []) else .error (t.flt 51)
def table (s : PS) (t : Tok) (arg : Wd) : Except Flt PS :=
  let ws := splitF arg
  if ws.all (fun w => (numberF w 0 100).isSome) && decide (ws.length ≤ 8) then .ok (PS.add { s with opn := s.opn ++ [⟨1, 0, 0, 0, ws.length, t⟩] } []) else .error (t.flt 51)
def row (s : PS) (t : Tok) (arg : Wd) : Except Flt PS := if arg = [] then .ok ((s.setLast fun l => { l with rows := l.rows + 1, cells := 0 }).add []) else .error (t.flt 51)
def end_ (s : PS) (t : Tok) (arg : Wd) : Except Flt PS := if arg = [] then .ok (PS.add { s with opn := s.opn.dropLast } []) else .error (t.flt 51)
/-- The directives, by their numbers in the order of the map's text. -/
def names : List Wd := [[115, 116, 121, 108, 101], [116, 111, 112, 105, 99], [110, 111, 116, 101], [116, 111, 99], [107, 101, 121], [115, 101, 101], [112, 97, 114, 97], [108, 105, 115, 116], [105, 116, 101, 109], [116, 97, 98, 108, 101], [114, 111, 119], [101, 110, 100]]
def may (s : PS) : Nat → Bool
  | 0 => s.cur.isNone
  | 1 => true
  | 2 => true
  | 3 => s.fresh && match s.cur with
    | some t => t.level == 0
    | none => false
  | 4 => s.fresh
  | 5 => s.fresh
  | 6 => s.mayPara
  | 7 => s.mayList
  | 8 => match s.last with
    | some l => l.table == 0
    | none => false
  | 9 => s.cur.isSome && s.last.isNone
  | 10 => match s.last with
    | some l => l.table == 1
    | none => false
  | _ => s.last.isSome
def do_ (s : PS) (t : Tok) (arg : Wd) : Nat → Except Flt PS
  | 0 => s.style t arg
  | 1 => s.begin_ t arg 0
  | 2 => s.begin_ t arg 1
  | 3 => s.contents t arg
  | 4 => s.key t arg
  | 5 => s.see t arg
  | 6 => s.para_ t arg
  | 7 => s.list t arg
  | 8 => s.item t arg
  | 9 => s.table t arg
  | 10 => s.row t arg
  | _ => s.end_ t arg
def shortRow (s : PS) (n : Nat) : Bool := match s.last with
  | some l => l.table == 1 && (n == 10 || n == 11) && decide (0 < l.rows) && decide (l.cells < l.widths)
  | none => false
def directive (s : PS) (t : Tok) : Except Flt PS := match s.para with
  | some p => .error (p.flt 53)
  | none => match names.findIdx? (· == t.name) with
    | none => .error (t.flt 50)
    | some n =>
      if s.may n = false then .error (t.flt 50)
      else if s.shortRow n then .error (t.flt 54)
      else match (if n = 1 ∨ n = 2 then s.close else .ok s) with
        | .error e => .error e
        | .ok s => s.do_ t (tidyF t.text) n
def paragraph (s : PS) (l : List Tok) : Except Flt PS := match l with
  | [] => .ok s
  | t :: _ =>
    if s.mayPara = false then .error ⟨if s.inRow then 54 else 52, t.line, t.col, []⟩
    else match piecesF l.length l [] [] 0 with
      | .error e => .error e
      | .ok b => .ok (((if s.inRow then s.setLast fun l => { l with cells := l.cells + 1 } else s).add b |> fun s => { s with para := none }))
def finish (s : PS) : Except Flt PS := match s.para with
  | some p => .error (p.flt 53)
  | none => s.close
end PS
def PS.zero : PS := ⟨0, 0, none, [], none⟩
/-- How many tokens stand ahead of the next directive or blank line. -/
def runLen : List Tok → Nat
  | [] => 0
  | t :: l => if t.kind = 1 ∨ t.kind = 2 then 0 else runLen l + 1
def parseL : Nat → PS → List Tok → Except Flt PS
  | 0, s, _ => .ok s
  | f + 1, s, l => match l with
    | [] => .ok s
    | t :: r =>
      if t.kind = 1 then (match s.directive t with
        | .ok s => parseL f s r
        | .error e => .error e)
      else if t.kind = 2 then parseL f s r
      else match s.paragraph ((t :: r).take (1 + runLen r)) with
        | .ok s => parseL f s ((t :: r).drop (1 + runLen r))
        | .error e => .error e
/-- What Parse comes to: none: a source; else a fault, and whether the lexer told it. -/
def parseM (t : Wd) : Option (Flt × Bool) := match lexM t with
  | .error f => some (f, true)
  | .ok l => match parseL (l.length + 1) PS.zero l with
    | .error f => some (f, false)
    | .ok s => match s.finish with
      | .error f => some (f, false)
      | .ok _ => none
end Go.Proofs.YtafhmagifoapfaaGreatDoor.Bk
