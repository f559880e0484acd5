/- The splitter of package parts as a plain machine. -/
import Derived.Test.YtmalacamfjdimaaKeep
namespace Go.Proofs.Ytmalacamfjdimaa.Pt
open Go.RowKit Go.Proofs.Ytmalacamfjdimaa.W

inductive Stp where
  | none | feed | border | behind | dash | blanks | close
inductive Ev where
  | op | by_ (b : Int) | cl
inductive Verd where
  | wrong | goes | whole

structure St where
  want : ByteArray
  step : Stp
  at_ : Nat
  last : Bool
  hold : List Int
  out : List Ev
  told : Nat
  opn : Bool
  over : Bool
  ended : Bool

def St.rst (s : St) : St := { s with step := .border, at_ := 0, last := false }
def St.fresh (s : St) : St := { s with step := .border, at_ := 0, last := false, hold := [] }
def St.say (b : Int) (s : St) : St := if s.opn then { s with out := s.out ++ [.by_ b] } else s
def St.free (s : St) : St := { s with out := if s.opn then s.out ++ s.hold.map .by_ else s.out, hold := [], step := .none }
def St.delim (s : St) : St := ({ s with out := (if s.opn then s.out ++ [.cl] else s.out) ++ (if s.last then [] else [.op]), opn := !s.last, over := s.last } : St).fresh
def St.rBlanks (b : Int) (s : St) : Verd × St :=
  if b = 10 then (.whole, s) else if b = 13 then (.goes, { s with step := .close })
  else if (b = 9 ∨ b = 32) ∧ s.at_ < 16 then (.goes, { s with at_ := s.at_ + 1 }) else (.wrong, s)
def St.rBorder (b : Int) (s : St) : Verd × St :=
  if (strL s.want)[s.at_]? = some b then
    (.goes, if s.at_ + 1 = s.want.size then { s with step := .behind, at_ := 0 } else { s with at_ := s.at_ + 1 })
  else (.wrong, s)
def St.run (b : Int) (s : St) : Verd × St :=
  match s.step with
  | .none => (.wrong, s)
  | .feed => (if b = 10 then .goes else .wrong, s.rst)
  | .border => s.rBorder b
  | .behind => if b = 45 then (.goes, { s with step := .dash }) else St.rBlanks b { s with step := .blanks }
  | .dash => (if b = 45 then .goes else .wrong, { s with last := decide (b = 45), step := .blanks })
  | .blanks => s.rBlanks b
  | .close => (if b = 10 then .whole else .wrong, s)
def St.tail (b : Int) (s : St) : St :=
  if b = 13 then { s with step := .feed, hold := s.hold ++ [b] } else if b = 10 then { s.rst with hold := s.hold ++ [b] } else s.say b
def St.take (b : Int) (s : St) : St :=
  match s.step with
  | .none => s.tail b
  | _ => match s.run b with
    | (.goes, s') => { s' with hold := s'.hold ++ [b] }
    | (.whole, s') => s'.delim
    | (.wrong, s') => s'.free.tail b
def St.put (b : Int) (s : St) : Bool × St :=
  if s.ended || decide (s.told < s.out.length) then (false, s)
  else if s.over then (true, { s with out := [], told := 0 }) else (true, St.take b { s with out := [], told := 0 })
def St.next (s : St) : Option Ev × St :=
  match s.out[s.told]? with
  | some e => (some e, { s with told := s.told + 1 })
  | none => (none, s)
def blk (l : List Int) : Bool := l.all fun b => b == 9 || b == 32
def trim1 (l : List Int) (b : Int) : List Int := if l.head? = some b then l.tail else l
def St.delimits (s : St) : Bool :=
  let line := trim1 (trim1 s.hold 13) 10
  if (strL s.want).isPrefixOf line then
    match s.step with
    | .none => false
    | _ =>
      let rest := line.drop s.want.size
      blk (if s.last then (if ([45, 45] : List Int).isPrefixOf rest then rest.drop 2 else rest) else rest)
  else false
def St.fin (s : St) : St :=
  if s.ended || decide (s.told < s.out.length) then s
  else
    let s1 : St := { s with ended := true, out := [], told := 0 }
    if s.over then s1
    else
      let s2 := if s1.delimits then s1.delim else s1.free
      if s2.opn then { s2 with out := s2.out ++ [.cl] } else s2
def St.reason (s : St) : Int := if !s.ended || decide (s.told < s.out.length) || s.over then 0 else 33
def St.new (want : ByteArray) : St := { want := want, step := .border, at_ := 0, last := false, hold := [], out := [], told := 0, opn := false, over := false, ended := false }

def evC : Ev → List Value
  | .op => [.int .i64 1, .int .u8 0, .int .i64 3, .int .i64 0, .string ByteArray.empty]
  | .by_ b => [.int .i64 2, .int .u8 b, .int .i64 0, .int .i64 0, .string ByteArray.empty]
  | .cl => [.int .i64 3, .int .u8 0, .int .i64 0, .int .i64 0, .string ByteArray.empty]
def evs (l : List Ev) : List Value := l.flatMap evC
theorem evC_length (e : Ev) : (evC e).length = 5 := by cases e <;> rfl
theorem evs_append (a b : List Ev) : evs (a ++ b) = evs a ++ evs b := by simp [evs]
theorem evs_one (l : List Ev) : ∀ u ∈ evs l, u.oneCell' = true := by
  intro u hu
  obtain ⟨e, _, he⟩ := List.mem_flatMap.1 hu
  cases e <;> simp [evC] at he <;> rcases he with rfl | rfl | rfl | rfl | rfl <;> rfl

end Go.Proofs.Ytmalacamfjdimaa.Pt
