/- What a request target means, on lists of bytes: the plain words in which both the program's and the reference's functions of layer 8 are told. No program stands in this text. -/
namespace Go.Proofs.YthobmfnmenbkeaaDoor.Tg

/-- a property of every byte is asked of all 256 -/
theorem all_bytes (P : UInt8 → Prop) (h : ∀ n : Fin 256, P (UInt8.ofNat n.val)) (c : UInt8) : P c := by
  have := h ⟨c.toNat, c.toNat_lt⟩
  simpa using this

/-- a byte is one of a text's -/
def has (c : UInt8) (l : List UInt8) : Bool := l.contains c
def isLet (c : UInt8) : Bool := (65 ≤ c && c ≤ 90) || (97 ≤ c && c ≤ 122)
def isDig (c : UInt8) : Bool := 48 ≤ c && c ≤ 57
def unres (c : UInt8) : Bool := isLet c || isDig c || (c == 45 || c == 46 || c == 95 || c == 126)
def isSub (c : UInt8) : Bool := c == 33 || c == 36 || c == 38 || c == 39 || c == 40 || c == 41 || c == 42 || c == 43 || c == 44 || c == 59 || c == 61 || c == 58 || c == 64
def pathB (c : UInt8) : Bool := unres c || isSub c
def hostB (c : UInt8) : Bool := isLet c || isDig c || (c == 45 || c == 46 || c == 95 || c == 58)
def hexv (c : UInt8) : Option UInt8 := if isDig c then some (c - 48) else if 97 ≤ c && c ≤ 102 then some (c - 87) else if 65 ≤ c && c ≤ 70 then some (c - 55) else none
def up (n : UInt8) : UInt8 := if n < 10 then 48 + n else 55 + n
def coded (v : UInt8) : List UInt8 := [37, up (v / 16), up (v % 16)]

/-- the byte that two digits stand for -/
def hex2 (x y : UInt8) : Option UInt8 := match hexv x, hexv y with | some a, some b => some (a * 16 + b) | _, _ => none
/-- the byte of a code at the head of a text -/
def code : List UInt8 → Option UInt8
  | p :: x :: y :: _ => if p = 37 then hex2 x y else none
  | _ => none

/-- what the program answers beside: with no code, whatever the digits give -/
def rawCode : List UInt8 → UInt8
  | p :: x :: y :: _ => if p = 37 then ((hexv x).getD 0) <<< 4 ||| (hexv y).getD 0 else 0
  | _ => 0

def soft (on : Bool) (v : UInt8) : Bool := on && (v < 32 || v == 127)
def made (oth : UInt8 → Bool) (on : Bool) : List UInt8 → Bool
  | [] => true
  | c :: r => if c = 37 then (match r with | x :: y :: r' => (match hex2 x y with | some v => !soft on v && made oth on r' | none => false) | _ => false) else (pathB c || oth c) && made oth on r

def slash (c : UInt8) : Bool := c == 47
def qmark (c : UInt8) : Bool := c == 47 || c == 63
def isPath : List UInt8 → Bool
  | [] => false
  | c :: r => c == 47 && made slash true (c :: r)
def isQuery (l : List UInt8) : Bool := made qmark false l

def meant : List UInt8 → List UInt8
  | [] => []
  | [c] => [c]
  | [c, x] => [c, x]
  | c :: x :: y :: r => (match code [c, x, y] with | some v => (if unres v then [v] else coded v) ++ meant r | none => c :: meant (x :: y :: r))

def decoded : List UInt8 → Option (List UInt8)
  | [] => some []
  | c :: r => if c = 37 then (match r with | x :: y :: r' => (match hex2 x y with | some v => (decoded r').map (v :: ·) | none => none) | _ => none) else (decoded r).map (c :: ·)
def encode (l : List UInt8) : List UInt8 := l.flatMap fun c => if unres c then [c] else coded c

/-- a text cut at each byte c -/
def cuts (c : UInt8) : List UInt8 → List (List UInt8)
  | [] => [[]]
  | x :: r => if x = c then [] :: cuts c r else match cuts c r with | h :: t => (x :: h) :: t | [] => [[x]]

/-- dot segments taken out, one by one -/
def dots : List (List UInt8) → List (List UInt8) → Option (List (List UInt8))
  | out, [] => some out
  | out, s :: t =>
    if s = [46, 46] then (if out = [] then none else if t = [] then some (out.dropLast ++ [[]]) else dots out.dropLast t)
    else if s = [46] then (if t = [] then some (out ++ [[]]) else dots out t)
    else dots (out ++ [s]) t
def glue (l : List (List UInt8)) : List UInt8 := l.flatMap (47 :: ·)
def segs (path : List UInt8) : Option (List (List UInt8)) := if isPath path then dots [] (cuts 47 (meant path).tail) else none
def normal (path : List UInt8) : Option (List UInt8) := (segs path).map glue

end Go.Proofs.YthobmfnmenbkeaaDoor.Tg
