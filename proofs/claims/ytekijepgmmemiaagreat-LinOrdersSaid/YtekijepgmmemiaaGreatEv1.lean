/- Own text of this claim: an abstract machine over the given program form, and what follows from it. No condition. -/
import GoSem.Step
import Derived.KernelRfl
namespace Go.EV
noncomputable section

inductive AV where
  | int (k : IntKind) (n : Int)
  | bool (b : Bool)
  | str (s : ByteArray)
  | ptr (b off : Nat)
  | nilptr
  | sl (b off len : Nat) (cap : Option Nat) (esz : Nat)
  | nilsl
  | slz (full : Bool)
  | mp (b : Nat)
  | nilmap
  | fn (f : Fn) (first cap : List AV)
  | nilfn
  | yld (b : Nat)
  | agg (cs : List AV)
  | tup (vs : List AV)
  | ls (n : Nat) (f : Nat → List AV) (e : Nat) (full : Bool)
  | lp (cs : List AV) (k : Nat)
  | ep (b j k e : Nat)
  | es (b j n : Nat) (cap : Option Nat) (e : Nat)
  deriving Inhabited

inductive Tr (α : Type) where
  | nil
  | node (v : Option α) (l r : Tr α)
  | fn (f : Nat → Option α)
  deriving Inhabited

namespace Tr
variable {α : Type}
def get (t : Tr α) : Nat → Option α :=
  Tr.rec (motive := fun _ => Nat → Option α) (fun _ => none)
    (fun v _ _ gl gr i => Nat.rec (motive := fun _ => Option α) v (fun j _ => Bool.rec (motive := fun _ => Option α) (gr (j / 2)) (gl (j / 2)) (Nat.beq (j % 2) 0)) i) (fun f => f) t
/-- the tree is looked at first -/
def force {β : Type} (t : Tr α) (k : Tr α → β) : β := Tr.rec (motive := fun _ => β) (k .nil) (fun v l r _ _ => k (.node v l r)) (fun f => k (.fn f)) t
theorem force_eq {β : Type} (t : Tr α) (k : Tr α → β) : t.force k = k t := by cases t <;> rfl
def sing (v : α) : Nat → Nat → Tr α
  | 0, _ => .node (some v) .nil .nil
  | _ + 1, 0 => .node (some v) .nil .nil
  | f + 1, i + 1 => match Nat.beq (i % 2) 0 with
    | true => (sing v f (i / 2)).force fun t => .node none t .nil
    | false => (sing v f (i / 2)).force fun t => .node none .nil t
/-- a function, but at one place -/
def put1 (v : α) (f : Nat → Option α) (i j : Nat) : Option α := if j = i then some v else f j
def set (v : α) (t : Tr α) : Nat → Tr α :=
  Tr.rec (motive := fun _ => Nat → Tr α) (fun i => sing v i i)
    (fun u l r sl sr i => Nat.rec (motive := fun _ => Tr α) (.node (some v) l r) (fun j _ => Bool.rec (motive := fun _ => Tr α) ((sr (j / 2)).force fun t => .node u l t) ((sl (j / 2)).force fun t => .node u t r) (Nat.beq (j % 2) 0)) i)
    (fun f i => .fn (put1 v f i)) t
def del : Tr α → Nat → Tr α
  | .nil, _ => .nil
  | .fn f, i => .fn fun j => if j = i then none else f j
  | .node _ l r, 0 => .node none l r
  | .node u l r, i + 1 => match Nat.beq (i % 2) 0 with
    | true => (del l (i / 2)).force fun t => .node u t r
    | false => (del r (i / 2)).force fun t => .node u l t
def setL : Tr α → Nat → List α → Tr α
  | t, _, [] => t
  | t, i, v :: vs => setL (set v t i) (i + 1) vs
end Tr
/-- a number is found first -/
def forceN {β : Type} (n : Nat) (k : Nat → β) : β := Nat.rec (motive := fun _ => β) (k (nat_lit 0)) (fun m _ => k (Nat.succ m)) n
/-- a list's length, without depth -/
def lenF {α : Type} (l : List α) : Nat → Nat := List.rec (motive := fun _ => Nat → Nat) (fun k => k) (fun _ _ ih k => forceN (Nat.succ k) ih) l
def Tr.setLF {α : Type} (l : List α) : Tr α → Nat → Tr α := List.rec (motive := fun _ => Tr α → Nat → Tr α) (fun t _ => t) (fun v _ ih t i => (Tr.set v t i).force fun t => forceN (Nat.succ i) (ih t)) l

/-- A loop over a function: where it stands, and the frame from which its rounds begin. -/
structure ALoop where
  state : LoopState
  pending : Option Code
  fn : FuncId
  n : Nat
  tmps : Tr AV
  params : Array Tmp
  assign : Code
  body : Code

/-- A block of memory: a row of n cells: those that were written, and behind them the pattern z; a row of n cells that is only read (the blocks below 8, and no others); a map; a loop over a function; the calls that it defers (none): taken or not. -/
inductive ABlk where
  | row (n : Nat) (z : List AV) (t : Tr AV)
  | ro (n : Nat) (f : Nat → AV)
  | map (es : List (AV × AV × Nat)) (clock : Nat)
  | loop (x : ALoop)
  | dfr (there : Bool)
  | els (e n : Nat) (f : Nat → List AV)
  | imap (kk : IntKind) (upd : List (Int × AV)) (has : Int → Bool) (x : Int → AV)

mutual
def AV.beq : AV → AV → Bool
  | .int k a, .int k' b => decide (k = k') && decide (a = b)
  | .bool a, .bool b => decide (a = b)
  | .str a, .str b => decide (a = b)
  | .ptr a o, .ptr b p => Nat.beq a b && Nat.beq o p
  | .nilptr, .nilptr => true
  | .sl a o l c e, .sl b p m d f => Nat.beq a b && Nat.beq o p && Nat.beq l m && decide (c = d) && Nat.beq e f
  | .nilsl, .nilsl => true
  | .slz a, .slz b => decide (a = b)
  | .mp a, .mp b => Nat.beq a b
  | .nilmap, .nilmap => true
  | .fn f a c, .fn g b d => decide (f = g) && AV.beqs a b && AV.beqs c d
  | .nilfn, .nilfn => true
  | .yld a, .yld b => Nat.beq a b
  | .agg a, .agg b => AV.beqs a b
  | .tup a, .tup b => AV.beqs a b
  | _, _ => false
def AV.beqs : List AV → List AV → Bool
  | [], [] => true
  | a :: l, b :: r => AV.beq a b && AV.beqs l r
  | _, _ => false
end

structure AH where
  bs : Tr ABlk
  next : Nat

def AH.empty : AH := ⟨.nil, 8⟩

def rowGet (n : Nat) (z : List AV) (t : Tr AV) (i : Nat) : Option AV :=
  match Nat.blt i n with
  | true => match t.get i with
    | some v => some v
    | none => z[i % z.length]?
  | false => none

def AH.cell (h : AH) (b off : Nat) : Option AV :=
  match h.bs.get b with
  | some (.row n z t) => rowGet n z t off
  | some (.ro n f) => match Nat.blt off n with
    | true => some (f off)
    | false => none
  | _ => none

def AH.cells (h : AH) (b off : Nat) : Nat → Option (List AV)
  | 0 => some []
  | n + 1 => match h.cell b off with
    | some v => match AH.cells h b (off + 1) n with
      | some vs => some (v :: vs)
      | none => none
    | none => none

/-- the same, without depth -/
def AH.cellsF (h : AH) (b off : Nat) (n : Nat) : List AV → Option (List AV) :=
  Nat.rec (motive := fun _ => List AV → Option (List AV)) some (fun n ih acc => match h.cell b (off + n) with | some v => ih (v :: acc) | none => none) n

def AH.put (h : AH) (b off : Nat) (vs : List AV) : Option AH :=
  match h.bs.get b with
  | some (.row n z t) => match Nat.ble (off + vs.length) n with
    | true => some ⟨h.bs.set (.row n z (t.setL off vs)) b, h.next⟩
    | false => none
  | _ => none

def AH.new (h : AH) (o : ABlk) : AH := ⟨h.bs.set o h.next, h.next + 1⟩

/-- nothing is added to nothing -/
def addZ : Nat → Nat → Nat
  | 0, i => i
  | a + 1, i => (a + 1) + i
/-- an element of a row of elements has other cells -/
def updE (f : Nat → List AV) (j : Nat) (cs : List AV) (i : Nat) : List AV := bif Nat.beq i j then cs else f i
/-- elements, and others behind them -/
def catE (n : Nat) (f g : Nat → List AV) (i : Nat) : List AV := bif Nat.blt i n then f i else g (i - n)
/-- elements, and n others from a place on -/
def overE (j n : Nat) (f g : Nat → List AV) (i : Nat) : List AV := bif Nat.ble j i && Nat.blt i (j + n) then g (i - j) else f i
/-- cells in pieces -/
def chunkE (e : Nat) (cs : List AV) (i : Nat) : List AV := (cs.drop (i * e)).take e

def ofValue : Value → Option AV
  | .int k n => some (.int k n)
  | .bool b => some (.bool b)
  | .string s => some (.str s)
  | .pointer none => some .nilptr
  | .slice none 0 0 => some .nilsl
  | .map none => some .nilmap
  | .nilFunc => some .nilfn
  | _ => none

def allOf {α β : Type} (f : α → Option β) : List α → Option (List β)
  | [] => some []
  | a :: l => match f a with
    | some b => match allOf f l with
      | some bs => some (b :: bs)
      | none => none
    | none => none

def cellsOfValue : Value → Option (List AV)
  | .agg cs => allOf ofValue cs.toList
  | v => match ofValue v with | some a => some [a] | none => none

def AV.cells : AV → List AV
  | .agg cs => cs
  | v => [v]

def zeroOf (P : Program) (t : TypeId) : Option (List AV) :=
  match P.info? t with
  | some i => match i.zero with
    | some v => cellsOfValue v
    | none => none
  | none => none

def isAgg (P : Program) (t : TypeId) : Option Bool :=
  match P.underlying t with
  | some (.struct _) => some true
  | some (.array _ _) => some true
  | some _ => some false
  | none => none

def sizeOf (P : Program) (t : TypeId) : Option Nat :=
  match P.info? t with
  | some i => some i.size
  | none => none

def loadV (P : Program) (h : AH) (t : TypeId) (b off : Nat) : Option AV :=
  match isAgg P t with
  | some true => match sizeOf P t with
    | some n => match h.cells b off n with
      | some cs => some (.agg cs)
      | none => none
    | none => none
  | some false => h.cell b off
  | none => none

def notAgg : AV → Bool
  | .agg _ => false
  | .tup _ => false
  | _ => true

def storeV (P : Program) (h : AH) (t : TypeId) (b off : Nat) (v : AV) : Option AH :=
  match sizeOf P t with
  | some n => match Nat.beq v.cells.length n && v.cells.all notAgg with
    | true => h.put b off v.cells
    | false => none
  | none => none

def part (P : Program) (t : TypeId) (cs : List AV) (off : Nat) : Option AV :=
  match isAgg P t with
  | some true => match sizeOf P t with
    | some n => match Nat.ble (off + n) cs.length with
      | true => some (.agg ((cs.drop off).take n))
      | false => none
    | none => none
  | some false => cs[off]?
  | none => none

def splice (cs : List AV) (off : Nat) (vs : List AV) : List AV := cs.take off ++ vs ++ cs.drop (off + vs.length)

/-- what a pointer leads to -/
def loadA (P : Program) (h : AH) (t : TypeId) (p : AV) : Option AV :=
  match p with
  | .ptr b off => loadV P h t b off
  | .lp cs k => part P t cs k
  | .ep b j k e => match h.bs.get b with
    | some (.els e' _ f) => match Nat.beq e e' with
      | true => part P t (f j) k
      | false => none
    | _ => none
  | _ => none
def storeA (P : Program) (h : AH) (t : TypeId) (p v : AV) : Option AH :=
  match p with
  | .ptr b off => storeV P h t b off v
  | .ep b j k e => match h.bs.get b with
    | some (.els e' m f) => match sizeOf P t with
      | some n => match Nat.beq e e' && (Nat.beq v.cells.length n && v.cells.all notAgg) with
        | true => match Nat.beq k 0 && Nat.beq n e with
          | true => some ⟨Tr.set (.els e m (updE f j v.cells)) h.bs b, h.next⟩
          | false => match Nat.ble (k + v.cells.length) (f j).length with
            | true => some ⟨Tr.set (.els e m (updE f j (splice (f j) k v.cells))) h.bs b, h.next⟩
            | false => none
        | false => none
      | none => none
    | _ => none
  | _ => none

/-- places: of each field its offset and its size -/
def fillA (place : Nat → Option (Nat × Nat)) (cs : List AV) : List (Nat × AV) → Option (List AV)
  | [] => some cs
  | (i, v) :: rest => match place i with
    | none => none
    | some (off, size) => match Nat.beq v.cells.length size && Nat.ble (off + size) cs.length with
      | true => fillA place (splice cs off v.cells) rest
      | false => none

def partsOf (ev : Operand → Option AV) (ps : Array (Nat × Operand)) : Option (List (Nat × AV)) :=
  allOf (fun p => match ev p.2 with | some v => some (p.1, v) | none => none) ps.toList

def fieldPlaces (P : Program) (fs : Array Field) : Option (List (Nat × Nat)) :=
  allOf (fun f => match sizeOf P f.type with | some n => some (f.offset, n) | none => none) fs.toList

def intOf : AV → Option Int
  | .int _ n => some n
  | _ => none

def idx (P : Program) (t : TypeId) (x ix : AV) : Option AV :=
  match ix with
  | .int _ i => match P.underlying t, x with
    | some (.slice elem), .ls n f e _ => match decide (0 ≤ i) && decide (i < (n : Int)), sizeOf P elem with
      | true, some sz => match Nat.beq sz e with
        | true => some (.lp (f i.toNat) 0)
        | false => none
      | _, _ => none
    | some (.slice elem), .es b j n _ e => match decide (0 ≤ i) && decide (i < (n : Int)), sizeOf P elem with
      | true, some sz => match Nat.beq sz e with
        | true => some (.ep b (addZ j i.toNat) 0 e)
        | false => none
      | _, _ => none
    | some (.slice elem), .sl b off len _ _ => match decide (0 ≤ i) && decide (i < (len : Int)), sizeOf P elem with
      | true, some sz => some (.ptr b (off + i.toNat * sz))
      | _, _ => none
    | some (.array len elem), .ptr b off => match decide (0 ≤ i) && decide (i < (len : Int)), sizeOf P elem with
      | true, some sz => some (.ptr b (off + i.toNat * sz))
      | _, _ => none
    | _, _ => none
  | _ => none

def indexV (P : Program) (t : TypeId) (x ix : AV) : Option AV :=
  match ix with
  | .int _ i => match P.underlying t, x with
    | some (.array len elem), .agg cs => match decide (0 ≤ i) && decide (i < (len : Int)), sizeOf P elem with
      | true, some sz => part P elem cs (i.toNat * sz)
      | _, _ => none
    | some .string, .str s => match decide (0 ≤ i) with
      | true => match s[i.toNat]? with
        | some c => some (.int .u8 c.toNat)
        | none => none
      | false => none
    | _, _ => none
  | _ => none

def cmpI (op : BinOp) (x y : Int) : Option Bool :=
  match op with
  | .eql => some (x == y)
  | .neq => some (x != y)
  | .lss => some (decide (x < y))
  | .leq => some (decide (x ≤ y))
  | .gtr => some (decide (x > y))
  | .geq => some (decide (x ≥ y))
  | _ => none

def arith (op : BinOp) (k : IntKind) (x y : Int) : Option Int :=
  match op with
  | .add => some (k.wrap (x + y))
  | .sub => some (k.wrap (x - y))
  | .mul => some (k.wrap (x * y))
  | .quo => if y = 0 then none else some (k.wrap (x.tdiv y))
  | .rem => if y = 0 then none else some (x.tmod y)
  | .and => some (k.wrap (BitVec.ofInt k.bits x &&& BitVec.ofInt k.bits y).toNat)
  | .or => some (k.wrap (BitVec.ofInt k.bits x ||| BitVec.ofInt k.bits y).toNat)
  | .xor => some (k.wrap (BitVec.ofInt k.bits x ^^^ BitVec.ofInt k.bits y).toNat)
  | .andNot => some (k.wrap (BitVec.ofInt k.bits x &&& ~~~(BitVec.ofInt k.bits y)).toNat)
  | _ => none

def shiftI (op : BinOp) (k : IntKind) (x y : Int) : Option Int :=
  match decide (y < 0) with
  | true => none
  | false => match op with
    | .shl => some (k.wrap (x * 2 ^ (min y.toNat k.bits)))
    | .shr => some (x.fdiv (2 ^ (min y.toNat k.bits)))
    | _ => none

/-- equality of plain values (ints, bools, strings of one type) -/
def eqCell : AV → AV → Option Bool
  | .int k a, .int k' b => match decide (k = k') with
    | true => some (a == b)
    | false => none
  | .bool a, .bool b => some (a == b)
  | .str a, .str b => some (a == b)
  | _, _ => none

def eqFs (P : Program) (f : TypeId → AV → AV → Option Bool) (xs ys : List AV) : List Field → Option Bool
  | [] => some true
  | fd :: fs => match decide (fd.name ≠ "_") with
    | false => eqFs P f xs ys fs
    | true => match part P fd.type xs fd.offset, part P fd.type ys fd.offset with
      | some x, some y => match f fd.type x y with
        | some b => match eqFs P f xs ys fs with
          | some c => some (b && c)
          | none => none
        | none => none
      | _, _ => none

def eqIn (P : Program) : Nat → TypeId → AV → AV → Option Bool
  | 0, _, _, _ => none
  | d + 1, t, x, y => match P.underlying t, x, y with
    | some .bool, .bool a, .bool b => some (a == b)
    | some (.int _), .int k a, .int k' b => match decide (k = k') with
      | true => some (a == b)
      | false => none
    | some .string, .str a, .str b => some (a == b)
    | some (.struct fs), .agg xs, .agg ys => match P.stoodInHeld t with
      | true => none
      | false => eqFs P (eqIn P d) xs ys fs.toList
    | some (.slice _), .nilsl, .nilsl => some true
    | some (.slice _), .nilsl, .sl .. => some false
    | some (.slice _), .sl .., .nilsl => some false
    | some (.slice _), .nilsl, .slz _ => some false
    | some (.slice _), .slz _, .nilsl => some false
    | some (.slice _), .ls (_ + 1) _ _ _, .nilsl => some false
    | some (.slice _), .es _ _ (_ + 1) _ _, .nilsl => some false
    | some (.pointer _), .nilptr, .nilptr => some true
    | some (.pointer _), .nilptr, .ptr .. => some false
    | some (.pointer _), .ptr .., .nilptr => some false
    | some (.map _ _), .nilmap, .nilmap => some true
    | some (.map _ _), .nilmap, .mp .. => some false
    | some (.map _ _), .mp .., .nilmap => some false
    | some (.func _ _ _), .nilfn, .nilfn => some true
    | some (.func _ _ _), .nilfn, .fn .. => some false
    | some (.func _ _ _), .fn .., .nilfn => some false
    | _, _, _ => none

/-- may two values be compared (no interface within) -/
def eqOk (P : Program) (t : TypeId) : AV → AV → Bool
  | .agg _, .agg _ => !P.eqGuardType P.depth t
  | .agg _, _ => false
  | .tup _, _ => false
  | _, _ => true

def eqV (P : Program) (t : TypeId) (x y : AV) : Option Bool :=
  match eqOk P t x y with
  | true => eqIn P 9 t x y
  | false => none

def bin (P : Program) (op : BinOp) (t : TypeId) (x y : AV) : Option AV :=
  match x, y with
  | .int k a, .int k' b =>
    match op with
    | .shl | .shr => match shiftI op k a b with | some n => some (.int k n) | none => none
    | .add | .sub | .mul | .quo | .rem | .and | .or | .xor | .andNot => match decide (k = k') with
      | true => match arith op k a b with | some n => some (.int k n) | none => none
      | false => none
    | _ => match decide (k = k') with
      | true => match cmpI op a b with | some c => some (.bool c) | none => none
      | false => none
  | .str a, .str b => match op with
    | .eql => some (.bool (a == b))
    | .neq => some (.bool (!(a == b)))
    | .add => match Nat.ble (a.size + b.size) (2 ^ 40) with
      | true => some (.str (a ++ b))
      | false => none
    | _ => none
  | x, y => match op with
    | .eql => match eqV P t x y with | some b => some (.bool b) | none => none
    | .neq => match eqV P t x y with | some b => some (.bool !b) | none => none
    | _ => none

def bound (x : AV) (y : Nat) : Option Nat :=
  match x with
  | .int _ i => match decide (0 ≤ i) && decide (i ≤ (y : Int)) with
    | true => some i.toNat
    | false => none
  | _ => none

def optA (ev : Operand → Option AV) : Option Operand → Option (Option AV)
  | none => some none
  | some o => match ev o with | some v => some (some v) | none => none

def capOr (c : Option Nat) (d : Nat) : Nat := match c with | some c => c | none => d
def capLess (c : Option Nat) (l : Nat) : Option Nat := match c with | some c => some (c - l) | none => none

/-- low, high, and the new capacity: of a slice whose capacity may be unknown -/
def cutS (len : Nat) (cap : Option Nat) (lo hi mx : Option AV) : Option (Nat × Nat × Option Nat) :=
  match mx with
  | some mv =>
    -- a max up to the length is within whatever capacity there is
    match bound mv (capOr cap len) with
    | some m => match hi with
      | some hv => match bound hv m with
        | some h => match lo with
          | some lv => match bound lv h with | some l => some (l, h, some (m - l)) | none => none
          | none => some (0, h, some m)
        | none => none
      | none => none
    | none => none
  | none =>
    match (match hi with | some hv => bound hv (capOr cap len) | none => some len) with
    | some h => match lo with
      | some lv => match bound lv h with
        | some l => some (l, h, capLess cap l)
        | none => none
      | none => some (0, h, cap)
    | none => none

/-- of a slice whose capacity is known only if it is full: is it full still -/
def fullS (n : Nat) (full : Bool) (l h : Nat) (c : Option Nat) : Bool :=
  match c with
  | some c => Nat.beq c (h - l)
  | none => full && Nat.beq h n

def sliceV (P : Program) (t : TypeId) (x : AV) (lo hi mx : Option AV) : Option AV :=
  match P.underlying t, x with
  | some (.slice elem), .ls n f e full => match cutS n none lo hi mx, sizeOf P elem with
    | some (l, h, c), some sz => match Nat.beq sz e with
      | true => some (.ls (h - l) (fun i => f (addZ l i)) e (fullS n full l h c))
      | false => none
    | _, _ => none
  | some (.slice elem), .es b j n cap e => match cutS n cap lo hi mx, sizeOf P elem with
    | some (l, h, c), some sz => match Nat.beq sz e with
      | true => some (.es b (addZ j l) (h - l) none e)
      | false => none
    | _, _ => none
  | some (.slice elem), .sl b off len cap esz => match cutS len cap lo hi mx, sizeOf P elem with
    | some (l, h, c), some sz => match Nat.beq sz esz && Nat.ble l h, c with
      | true, none => match Nat.beq l 0, Nat.beq l h with   -- (an unknown capacity may be all used up: then the address stays)
        | true, _ => some (.sl b off h none esz)
        | false, true => some (.slz false)
        | false, false => some (.sl b (off + l * sz) (h - l) none esz)
      | true, some m => match Nat.beq m 0 with
        | true => some (.slz true)
        | false => some (.sl b (off + l * sz) (h - l) (some m) esz)
      | false, _ => none
    | _, _ => none
  | some (.slice elem), .nilsl => match cutS 0 (some 0) lo hi mx, sizeOf P elem with
    | some _, some _ => some .nilsl
    | _, _ => none
  | some (.slice elem), .slz true => match cutS 0 (some 0) lo hi mx, sizeOf P elem with
    | some _, some _ => some (.slz true)
    | _, _ => none
  | some (.slice elem), .slz false => match cutS 0 none lo hi mx, sizeOf P elem with
    | some (_, _, some _), some _ => some (.slz true)
    | some (_, _, none), some _ => some (.slz false)
    | _, _ => none
  | _, _ => none

def lenV (P : Program) (t : TypeId) (x : AV) : Option AV :=
  match P.underlying t, x with
  | some (.slice _), .sl _ _ n _ _ => some (.int .i64 n)
  | some (.slice _), .ls n _ _ _ => some (.int .i64 n)
  | some (.slice _), .es _ _ n _ _ => some (.int .i64 n)
  | some (.slice _), .nilsl => some (.int .i64 0)
  | some (.slice _), .slz _ => some (.int .i64 0)
  | some .string, .str s => some (.int .i64 s.size)
  | _, _ => none

def mm2 (isMax : Bool) (x y : Int) : Int :=
  match isMax with
  | true => if y > x then y else x
  | false => if y < x then y else x

def mm (isMax : Bool) : AV → List AV → Option AV
  | x, [] => some x
  | .int k x, .int k' y :: r => match decide (k = k') with
    | true => mm isMax (.int k (mm2 isMax x y)) r
    | false => none
  | _, _ => none

/-- operations that look at no memory -/
def pureOp (P : Program) (ev : Operand → Option AV) : Op → Option AV
  | .move x => ev x
  | .assign x => ev x
  | .pick c a b => match ev c with
    | some (.bool true) => ev a
    | some (.bool false) => ev b
    | _ => none
  | .build t ps => match P.underlying t, zeroOf P t, partsOf ev ps with
    | some (.struct fs), some z, some l => match fieldPlaces P fs with
      | some pl => match fillA (fun i => pl[i]?) z l with
        | some cs => some (.agg cs)
        | none => none
      | none => none
    | some (.array _ elem), some z, some l => match sizeOf P elem with
      | some sz => match fillA (fun i => some (i * sz, sz)) z l with
        | some cs => some (.agg cs)
        | none => none
      | none => none
    | _, _, _ => none
  | .nilCheck x => match ev x with
    | some (.ptr b o) => some (.ptr b o)
    | some (.lp cs k) => some (.lp cs k)
    | some (.ep b j k e) => some (.ep b j k e)
    | some (.fn f a c) => match f with | .func g => some (.fn (.func g) a c) | _ => none
    | some (.yld b) => some (.yld b)
    | _ => none
  | .binOp op t x y _ => match ev x, ev y with
    | some a, some b => bin P op t a b
    | _, _ => none
  | .unOp op _ x => match op, ev x with
    | .not, some (.bool b) => some (.bool !b)
    | .neg, some (.int k n) => some (.int k (k.wrap (0 - n)))
    | _, _ => none
  | .convert src dst x => match P.underlying src, P.underlying dst, ev x with
    | some (.int _), some (.int k), some (.int _ n) => some (.int k (k.wrap n))
    | _, _, _ => none
  | .makeFunc fn first cap => match allOf ev first.toList, allOf ev cap.toList with
    | some a, some c => some (.fn fn a c)
    | _, _ => none
  | .slice t x lo hi mx => match ev x, optA ev lo, optA ev hi, optA ev mx with
    | some v, some l, some h, some m => sliceV P t v l h m
    | _, _, _, _ => none
  | .fieldAddr s x f => match P.underlying s, ev x with
    | some (.struct fs), some (.ptr b off) => match fs[f]? with
      | some fd => match sizeOf P fd.type with
        | some (_ + 1) => some (.ptr b (off + fd.offset))
        | _ => none
      | none => none
    | some (.struct fs), some (.lp cs k) => match fs[f]? with
      | some fd => match sizeOf P fd.type with
        | some (_ + 1) => some (.lp cs (k + fd.offset))
        | _ => none
      | none => none
    | some (.struct fs), some (.ep b j k e) => match fs[f]? with
      | some fd => match sizeOf P fd.type with
        | some (_ + 1) => some (.ep b j (k + fd.offset) e)
        | _ => none
      | none => none
    | _, _ => none
  | .field s x f => match P.underlying s, ev x with
    | some (.struct fs), some (.agg cs) => match fs[f]? with
      | some fd => part P fd.type cs fd.offset
      | none => none
    | _, _ => none
  | .indexAddr t x ix => match ev x, ev ix with
    | some a, some i => idx P t a i
    | _, _ => none
  | .index t x ix => match ev x, ev ix with
    | some a, some i => indexV P t a i
    | _, _ => none
  | .extract t i => match ev t with
    | some (.tup vs) => vs[i]?
    | _ => none
  | .call { callee := .builtin .len, args, argTypes } => match args.toList, argTypes.toList with
    | [x], [t] => match ev x with | some v => lenV P t v | none => none
    | _, _ => none
  | .call { callee := .builtin .max, args, .. } => match allOf ev args.toList with
    | some (x :: r) => mm true x r
    | _ => none
  | .call { callee := .builtin .min, args, .. } => match allOf ev args.toList with
    | some (x :: r) => mm false x r
    | _ => none
  | _ => none

/-- operations that make a block: the block, and what names it -/
def newOp (P : Program) (ev : Operand → Option AV) (nx : Nat) : Op → Option (ABlk × AV)
  | .alloc t => match zeroOf P t with
    | some z => some (.row z.length z .nil, .ptr nx 0)
    | none => none
  | .box t x => match ev x with
    | some v => match v.cells.all notAgg with
      | true => some (.row v.cells.length v.cells .nil, .ptr nx 0)
      | false => none
    | none => none
  | .buildSlice t len ps => match P.underlying t, partsOf ev ps with
    | some (.slice elem), some l => match sizeOf P elem, zeroOf P elem with
      | some (sz + 1), some z => match fillA (fun i => some (i * (sz + 1), sz + 1)) ((List.replicate len z).flatten) l with
        | some cs => match Nat.ble (len * (sz + 1)) (2 ^ 24) && Nat.beq z.length (sz + 1) with
          | true => some (.row (len * (sz + 1)) cs .nil, .sl nx 0 len (some len) (sz + 1))
          | false => none
        | none => none
      | _, _ => none
    | _, _ => none
  | .makeSlice t l c => match P.underlying t, ev l, ev c with
    | some (.slice elem), some (.int _ (.ofNat n)), some (.int _ (.ofNat m)) => match P.info? elem, zeroOf P elem with
      | some i, some z => match Nat.ble n m && Nat.ble (i.bytes * m) (2 ^ 47) && Nat.ble m (2 ^ 47) && Nat.beq z.length i.size && Nat.blt 0 i.size with
        | true => some (.row (m * i.size) z .nil, .sl nx 0 n (some m) i.size)
        | false => none
      | _, _ => none
    | _, _, _ => none
  | .makeMap _ none => some (.map [] 0, .mp nx)
  | .makeMap t (some r) => match P.underlying t, ev r with
    | some (.map _ _), some (.int _ _) => some (.map [] 0, .mp nx)
    | _, _ => none
  | _ => none

/-- the cells of what is appended or copied -/
def srcCells (h : AH) (esz : Nat) (n : Nat) : AV → Option (List AV)
  | .sl b off len _ sz => match Nat.ble n len && Nat.beq sz esz with
    | true => h.cellsF b off (n * esz) []
    | false => none
  | .nilsl => match n with | 0 => some [] | _ => none
  | .slz _ => match n with | 0 => some [] | _ => none
  | _ => none

def lenA : AV → Option Nat
  | .sl _ _ n _ _ => some n
  | .ls n _ _ _ => some n
  | .es _ _ n _ _ => some n
  | .nilsl => some 0
  | .slz _ => some 0
  | _ => none

def rowOf (h : AH) (b : Nat) : Option (Nat × List AV × Tr AV) :=
  match h.bs.get b with
  | some (.row n z t) => some (n, z, t)
  | _ => none

/-- the row of an append: what was there from off on (len cells), and the new cells behind it -/
def joinRow (h : AH) (b off len : Nat) (new : List AV) : Option ABlk :=
  match rowOf h b with
  | some (m, z, t) => match Nat.beq off 0 && Nat.beq m len with
    | true => some (.row (len + lenF new 0) z (Tr.setLF new t len))
    | false => match h.cells b off len with
      | some old => some (.row (len + lenF new 0) (old ++ new) .nil)
      | none => none
  | none => none

def appendV (P : Program) (h : AH) (t t2 : TypeId) (s x : AV) : Option (AV × AH) :=
  match P.underlying t, P.underlying t2 with
  | some (.slice elem), some (.slice _) => match P.info? elem, zeroOf P elem, lenA s, lenA x with
    | some i, some z, some sl, some n =>
      match Nat.blt 0 i.size && Nat.blt 0 i.bytes && Nat.beq z.length i.size && Nat.ble (i.bytes * (sl + n + 1000) * 4) (2 ^ 47), srcCells h i.size n x with
      | true, some new => match Nat.beq (lenF new 0) (n * i.size) && new.all notAgg with
        | true => match s with
          | .sl b off len cap esz => match Nat.beq esz i.size, cap with
            | true, some c => match Nat.ble (len + n) c with
              | true => match h.put b (off + len * esz) new with
                | some h' => some (.sl b off (len + n) (some c) esz, h')
                | none => none
              | false => match joinRow h b off (len * esz) new with
                | some r => some (.sl h.next 0 (len + n) none esz, h.new r)
                | none => none
            | true, none => match joinRow h b off (len * esz) new with
              | some r => some (.sl h.next 0 (len + n) none esz, ⟨Tr.set r (h.bs.del b) h.next, h.next + 1⟩)
              | none => none
            | false, _ => none
          | .nilsl => match n with
            | 0 => some (.nilsl, h)
            | n + 1 => some (.sl h.next 0 (n + 1) none i.size, h.new (.row (lenF new 0) new .nil))
          | .slz true => match n with
            | 0 => some (.slz true, h)
            | n + 1 => some (.sl h.next 0 (n + 1) none i.size, h.new (.row (lenF new 0) new .nil))
          | _ => none
        | false => none
      | _, _ => none
    | _, _, _, _ => none
  | _, _ => none

/-- the elements of a slice -/
def elemsOf (h : AH) (e : Nat) : AV → Option (Nat → List AV)
  | .ls _ f e' _ => match Nat.beq e' e with
    | true => some f
    | false => none
  | .es b j _ _ e' => match Nat.beq e' e with
    | true => match h.bs.get b with
      | some (.els e2 _ f) => match Nat.beq e2 e with
        | true => some fun i => f (addZ j i)
        | false => none
      | _ => none
    | false => none
  | .sl b off len _ e' => match Nat.beq e' e with
    | true => match h.cells b off (len * e) with
      | some cs => match cs.all notAgg with
        | true => some (chunkE e cs)
        | false => none
      | none => none
    | false => none
  | .nilsl => some fun _ => []
  | .slz _ => some fun _ => []
  | _ => none
/-- is it a slice of elements -/
def isEls : AV → Bool
  | .ls _ _ _ _ => true
  | .es _ _ _ _ _ => true
  | _ => false
/-- an append to, or of, elements -/
def appendE (P : Program) (h : AH) (t t2 : TypeId) (s x : AV) : Option (AV × AH) :=
  match P.underlying t, P.underlying t2 with
  | some (.slice elem), some (.slice _) => match P.info? elem, zeroOf P elem, lenA s, lenA x with
    | some i, some z, some sl, some n =>
      match Nat.blt 0 i.size && Nat.blt 0 i.bytes && Nat.beq z.length i.size && Nat.ble (i.bytes * (sl + n + 1000) * 4) (2 ^ 47), elemsOf h i.size s, elemsOf h i.size x with
      | true, some f, some g => match s with
        | .ls _ _ _ true => match n with
          | 0 => some (s, h)
          | n + 1 => some (.es h.next 0 (sl + (n + 1)) none i.size, h.new (.els i.size (sl + (n + 1)) (catE sl f g)))
        | .sl _ _ _ (some c) _ => match Nat.beq c sl with
          | true => match sl with
            | 0 => some (.es h.next 0 n none i.size, h.new (.els i.size n g))
            | sl + 1 => match n with
              | 0 => some (s, h)
              | n + 1 => some (.es h.next 0 (sl + 1 + (n + 1)) none i.size, h.new (.els i.size (sl + 1 + (n + 1)) (catE (sl + 1) f g)))
          | false => none
        | .nilsl => some (.es h.next 0 n none i.size, h.new (.els i.size n g))
        | .slz true => some (.es h.next 0 n none i.size, h.new (.els i.size n g))
        | .es b j _ cap _ => match cap with
          | none => some (.es h.next 0 (sl + n) none i.size, ⟨Tr.set (.els i.size (sl + n) (catE sl f g)) (h.bs.del b) h.next, h.next + 1⟩)
          | some c => match Nat.ble (sl + n) c with
            | true => match h.bs.get b with
              | some (.els e2 m f0) => some (.es b j (sl + n) (some c) i.size, ⟨Tr.set (.els e2 m (overE (addZ j sl) n f0 g)) h.bs b, h.next⟩)
              | _ => none
            | false => some (.es h.next 0 (sl + n) none i.size, h.new (.els i.size (sl + n) (catE sl f g)))
        | _ => none
      | _, _, _ => none
    | _, _, _, _ => none
  | _, _ => none
def appendA (P : Program) (h : AH) (t t2 : TypeId) (s x : AV) : Option (AV × AH) :=
  match isEls s || isEls x with
  | true => appendE P h t t2 s x
  | false => appendV P h t t2 s x
/-- a copy into elements -/
def copyE (P : Program) (h : AH) (t : TypeId) (d s : AV) : Option (AV × AH) :=
  match P.underlying t with
  | some (.slice elem) => match sizeOf P elem, lenA d, lenA s with
    | some sz, some dl, some l => match elemsOf h sz s, d with
      | some g, .es b j _ _ e => match h.bs.get b with
        | some (.els e' m f) => match Nat.beq e sz && Nat.beq e' sz && isEls s && Nat.blt 0 sz with
          | true => some (.int .i64 ((Nat.min l dl : Nat) : Int), ⟨Tr.set (.els e' m (overE j (Nat.min l dl) f g)) h.bs b, h.next⟩)
          | false => none
        | _ => none
      | _, _ => none
    | _, _, _ => none
  | _ => none

def copyV (P : Program) (h : AH) (t : TypeId) (d s : AV) : Option (AV × AH) :=
  match P.underlying t with
  | some (.slice elem) => match sizeOf P elem, lenA d, lenA s with
    | some sz, some dl, some l => match srcCells h sz (Nat.min l dl) s with
      | some cs => match cs.all notAgg with
        | true => match d with
          | .sl b off _ _ _ => match h.put b off cs with
            | some h' => some (.int .i64 ((Nat.min l dl : Nat) : Int), h')
            | none => none
          | .nilsl => some (.int .i64 ((Nat.min l dl : Nat) : Int), h)
          | .slz _ => match cs with
            | [] => some (.int .i64 ((Nat.min l dl : Nat) : Int), h)
            | _ => none
          | _ => none
        | false => none
      | none => none
    | _, _, _ => none
  | _ => none

def findK (q : AV → AV → Option Bool) (k : AV) : List (AV × AV × Nat) → Nat → Option (Option (Nat × AV))
  | [], _ => some none
  | (k', v, _) :: es, i => match q k k' with
    | some true => some (some (i, v))
    | some false => findK q k es (i + 1)
    | none => none

def updK (k v : AV) : List (AV × AV × Nat) → Nat → List (AV × AV × Nat)
  | [], _ => []
  | (_, _, n) :: es, 0 => (k, v, n) :: es
  | e :: es, i + 1 => e :: updK k v es i

def ofCells : List AV → AV
  | [v] => v
  | l => .agg l

def keyFits (P : Program) (t : TypeId) (k : AV) : Bool :=
  match P.underlying t, k with
  | some (.int _), .int _ _ => true
  | some .string, .str _ => true
  | some .bool, .bool _ => true
  | _, _ => false

def plainK (P : Program) (t : TypeId) : Bool :=
  match P.underlying t with
  | some (.int _) => true
  | some .string => true
  | some .bool => true
  | _ => false
def plainFs (P : Program) (cs : List AV) : List Field → Bool
  | [] => true
  | fd :: fs => match plainK P fd.type, part P fd.type cs fd.offset with
    | true, some _ => plainFs P cs fs
    | _, _ => false
/-- a key that is a struct of plain fields -/
def keyAgg (P : Program) (t : TypeId) (k : AV) : Bool :=
  match P.underlying t, k with
  | some (.struct fs), .agg cs => plainFs P cs fs.toList
  | _, _ => false
/-- how keys are compared -/
def keyQ (P : Program) (t : TypeId) (k : AV) : Option (AV → AV → Option Bool) :=
  match keyFits P t k with
  | true => some eqCell
  | false => match keyAgg P t k with
    | true => some (eqIn P 9 t)
    | false => none

def zeroV (P : Program) (t : TypeId) : Option AV :=
  match P.info? t with
  | some i => match i.zero with
    | some (.agg cs) => match allOf ofValue cs.toList with
      | some l => some (.agg l)
      | none => none
    | some v => ofValue v
    | none => none
  | none => none

def withOk (ok : Bool) (v : AV) (is : Bool) : AV :=
  match ok with
  | true => .tup [v, .bool is]
  | false => v

def lookupV (P : Program) (h : AH) (t : TypeId) (m k : AV) (ok : Bool) : Option AV :=
  match P.underlying t with
  | some (.map key elem) => match keyQ P key k, zeroV P elem with
    | some q, some z => match m with
      | .nilmap => some (withOk ok z false)
      | .mp r => match h.bs.get r with
        | some (.map es _) => match findK q k es 0 with
          | some (some (_, v)) => some (withOk ok v true)
          | some none => some (withOk ok z false)
          | none => none
        | _ => none
      | _ => none
    | _, _ => none
  | _ => none

def updateV (P : Program) (h : AH) (t : TypeId) (m k v : AV) : Option AH :=
  match P.underlying t with
  | some (.map key _) => match keyQ P key k, m with
    | some q, .mp r => match h.bs.get r with
      | some (.map es clock) => match findK q k es 0 with
        | some (some (i, _)) => match keyFits P key k with
          | true => some ⟨Tr.set (.map (updK k v es i) clock) h.bs r, h.next⟩
          | false => none
        | some none => some ⟨Tr.set (.map (es ++ [(k, v, clock)]) (clock + 1)) h.bs r, h.next⟩
        | none => none
      | _ => none
    | _, _ => none
  | _ => none

def undefA : AV := .tup []

def copyA (P : Program) (h : AH) (t : TypeId) (d s : AV) : Option (AV × AH) :=
  match isEls d with
  | true => copyE P h t d s
  | false => copyV P h t d s
/-- n times the same cells -/
def repL (n : Nat) (z : List AV) : List AV := Nat.rec (motive := fun _ => List AV) [] (fun _ ih => z ++ ih) n
/-- a slice's elements are nothing -/
def clearA (P : Program) (h : AH) (t : TypeId) (x : AV) : Option AH :=
  match x with
  | .nilsl => match P.underlying t with | some (.slice _) => some h | _ => none
  | .slz _ => match P.underlying t with | some (.slice _) => some h | _ => none
  | .es b j n _ e => match P.underlying t with
    | some (.slice elem) => match zeroOf P elem, h.bs.get b with
      | some z, some (.els e' m f) => match Nat.beq e e' && (Nat.beq z.length e && (Nat.blt 0 e && z.all notAgg)) with
        | true => some ⟨Tr.set (.els e' m (overE j n f (fun _ => z))) h.bs b, h.next⟩
        | false => none
      | _, _ => none
    | _ => none
  | .sl b off len _ _ => match P.underlying t with
    | some (.slice elem) => match zeroOf P elem with
      | some z => match z.all notAgg with
        | true => h.put b off (repL len z)
        | false => none
      | none => none
    | _ => none
  | _ => none
/-- operations with an effect on memory, or that look at what may change -/
def effOp (P : Program) (ev : Operand → Option AV) (h : AH) : Op → Option (AV × AH)
  | .store t a x => match ev a, ev x with
    | some p, some v => match storeA P h t p v with
      | some h' => some (undefA, h')
      | none => none
    | _, _ => none
  | .call { callee := .builtin .append, args, argTypes } => match args.toList, argTypes.toList with
    | [s, x], [t, t2] => match ev s, ev x with
      | some a, some b => appendA P h t t2 a b
      | _, _ => none
    | _, _ => none
  | .call { callee := .builtin .copy, args, argTypes } => match args.toList, argTypes.toList with
    | [d, s], t :: _ => match ev d, ev s with
      | some a, some b => copyA P h t a b
      | _, _ => none
    | _, _ => none
  | .call { callee := .builtin .clear, args, argTypes } => match args.toList, argTypes.toList with
    | [x], t :: _ => match ev x with
      | some a => match clearA P h t a with
        | some h' => some (undefA, h')
        | none => none
      | none => none
    | _, _ => none
  | .lookup t m k ok => match ev m, ev k with
    | some a, some b => match lookupV P h t a b ok with
      | some v => some (v, h)
      | none => none
    | _, _ => none
  | .mapUpdate t m k x => match ev m, ev k, ev x with
    | some a, some b, some c => match updateV P h t a b c with
      | some h' => some (undefA, h')
      | none => none
    | _, _, _ => none
  | _ => none

inductive Kind where
  | pure | load | new | eff | call
  deriving DecidableEq

def kindOf : Op → Kind
  | .load _ _ => .load
  | .alloc _ | .box _ _ | .buildSlice _ _ _ | .makeSlice _ _ _ | .makeMap _ _ => .new
  | .store _ _ _ | .lookup _ _ _ _ | .mapUpdate _ _ _ _ => .eff
  | .call { callee := .builtin .append, .. } => .eff
  | .call { callee := .builtin .copy, .. } => .eff
  | .call { callee := .builtin .clear, .. } => .eff
  | .call { callee := .builtin _, .. } => .pure
  | .call _ => .call
  | _ => .pure

/-- of the slots that are named alone -/
def hasN (l : List Nat) (x : Nat) : Bool :=
  match l with
  | [] => false
  | y :: r => Nat.beq y x || hasN r x

def evF (g : Nat → Option AV) : Operand → Option AV
  | .tmp t => g t
  | .const v => ofValue v
  | .global _ => none
  | .func f => some (.fn (.func f) [] [])

def ev (fr : Tr AV) : Operand → Option AV := evF fr.get

def only (nm : List Nat) (g : Nat → Option AV) (t : Nat) : Option AV :=
  match hasN nm t with
  | true => g t
  | false => none

/-- of an operation of a region: its number, the slots that it names, all that are ahead of it -/
structure RI where
  i : Nat
  o : Oper
  nm : List Nat
  mask : Nat

/-- what a light operation, in a region that draws its order, found: it must find the same behind each effect -/
inductive Float where
  | load (t : TypeId) (p : AV) (v : AV)
  | new (b : Nat) (n : Nat) (z : List AV)
  | newMap (b : Nat)

inductive AItem where
  | code (c : Code)
  | inBlock (id : Nat)
  | inLoop (body : Code)
  | inScope (body : Code)
  | reg (ops : Array Oper) (rest : List Oper)
  | dreg (ops : Array Oper) (all : List RI) (done : Nat) (floats : List (Nat × Float)) (rest : List RI) (wait : Option RI)
  | inRF (b : Nat)
  | endRF (b : Nat)
  | begin

/-- of a frame: of which loop over a function it is a round; the loops that it has entered -/
structure ACtl where
  rnd : Option Nat
  marks : List Nat

structure AFr where
  fn : FuncId
  ctl : ACtl
  n : Nat
  tmps : Tr AV
  todo : List AItem

/-- what is told of truth values that hang on what is not known: of an operation of a function, by the slot that it writes; the log keeps what was told -/
abbrev Hints := FuncId → Nat → Option (Nat → Bool)
abbrev Log := List (Bool × Bool)
def noHint : Hints := fun _ _ => none
/-- of an operation: its bounds are as they must be (the log keeps what must be so); its number is this one -/
inductive Sure where
  | sure
  | int (n : Int)
/-- hints in a box (so that they can be found before a machine goes on) -/
structure HB where
  f : Hints
  u : FuncId → Nat → Option Sure
def noSure : FuncId → Nat → Option Sure := fun _ _ => none

structure AM where
  top : AFr
  below : List AFr
  heap : AH
  hints : HB
  log : Log

inductive ARes where
  | run (m : AM)
  | done (v : AV) (h : AH) (log : Log)
  | bad (why : Nat)

/-- what is known of calls: what they answer, and what they leave -/
abbrev Sum := FuncId → List AV → AH → Option (AV × Option AH)

/-- the memory behind a call: 'none' stands for 'as it was' -/
def behind (h : AH) : Option AH → AH
  | some g => g
  | none => h

def noSum : Sum := fun _ _ _ => none

/-- a truth value, with what is told of it -/
def told (f : FuncId) (hs : HB) (dst : Option Tmp) (v : AV) (l : Log) : AV × Log :=
  match dst with
  | some d => match hs.f f d with
    | some g => match v with
      | .bool c => (.bool (g (lenF l 0)), (c, g (lenF l 0)) :: l)
      | v => (v, l)
    | none => (v, l)
  | none => (v, l)

/-- a frame behind an operation: its slot has v; none: there is no such slot -/
def setDst (n : Nat) (fr : Tr AV) (dst : Option Tmp) (v : AV) : Option (Tr AV) :=
  match dst with
  | some d => match Nat.blt d n with
    | true => some (Tr.set v fr d)
    | false => none
  | none => some fr

def edgesL : List Edge → List Nat
  | [] => []
  | e :: es => match Region.binds .any e with
    | true => e.on :: edgesL es
    | false => edgesL es

def edgesOf (o : Oper) : List Nat := edgesL o.after.toList

def maskOf (i : Nat) (t : Tr Nat) : List Nat → Option Nat
  | [] => some 0
  | e :: es => match Nat.blt e i with
    | true => match t.get e, maskOf i t es with
      | some me, some m => some (m ||| (2 ^ e ||| me))
      | _, _ => none
    | false => none

def tmpsL : List Operand → List Nat
  | [] => []
  | .tmp t :: l => t :: tmpsL l
  | _ :: l => tmpsL l

def namesOf (ops : Array Oper) (o : Oper) : List Nat :=
  (match o.guard with
   | some (j, _) => (match ops[j]? with
     | some oj => (match oj.dst with | some d => [d] | none => [])
     | none => [])
   | none => []) ++ tmpsL o.op.operands.toList

def infosL (ops : Array Oper) : List Oper → Nat → Tr Nat → Option (List RI)
  | [], _, _ => some []
  | o :: os, i, t => match maskOf i t (edgesOf o) with
    | some m => match infosL ops os (i + 1) (t.set m i) with
      | some l => some (⟨i, o, namesOf ops o, m⟩ :: l)
      | none => none
    | none => none

/-- one of them writes what the other one names -/
def conf (a b : RI) : Bool :=
  (match a.o.dst with
   | some d => hasN b.nm d || (match b.o.dst with | some d' => Nat.beq d d' | none => false)
   | none => false) ||
  (match b.o.dst with | some d => hasN a.nm d | none => false)

def confsOk (a : RI) : List RI → Bool
  | [] => true
  | b :: l => (!conf a b || b.mask.testBit a.i) && confsOk a l

def pairsOk : List RI → Bool
  | [] => true
  | a :: l => confsOk a l && pairsOk l

def regInfo (ops : Array Oper) : Option (List RI) :=
  match infosL ops ops.toList 0 .nil with
  | some l => match pairsOk l with
    | true => some l
    | false => none
  | none => none

def allBits (done : Nat) : List Nat → Bool
  | [] => true
  | e :: es => done.testBit e && allBits done es

def isFirst (done : Nat) (x : RI) : List RI → Bool
  | [] => true
  | y :: l => (done.testBit y.i || Nat.beq y.i x.i || y.mask.testBit x.i) && isFirst done x l

def firstOf (done : Nat) : List RI → Option RI
  | [] => none
  | x :: l => match done.testBit x.i with
    | true => firstOf done l
    | false => some x

def floatOk (P : Program) (h : AH) : Float → Bool
  | .load t p v => match loadA P h t p with
    | some u => AV.beq u v
    | none => false
  | .new b n z => match h.bs.get b with
    | some (.row m y .nil) => Nat.beq m n && AV.beqs y z
    | _ => false
  | .newMap b => match h.bs.get b with
    | some (.map [] 0) => true
    | _ => false

def recheck (P : Program) (h : AH) (mask : Nat) : List (Nat × Float) → Option (List (Nat × Float))
  | [] => some []
  | (i, fl) :: r => match mask.testBit i with
    | true => recheck P h mask r
    | false => match floatOk P h fl with
      | true => match recheck P h mask r with
        | some r' => some ((i, fl) :: r')
        | none => none
      | false => none

/-- a light operation: what it finds, and what of it must stay so -/
def lightOp (P : Program) (g : Nat → Option AV) (h : AH) (op : Op) : Option (AV × AH × Option Float) :=
  match kindOf op with
  | .pure => match pureOp P (evF g) op with | some v => some (v, h, none) | none => none
  | .load => match op with
    | .load t a => match evF g a with
      | some (.lp cs k) => match part P t cs k with | some v => some (v, h, none) | none => none
      | some p => match loadA P h t p with | some v => some (v, h, some (.load t p v)) | none => none
      | _ => none
    | _ => none
  | .new => match newOp P (evF g) h.next op with
    | some (.row n z .nil, v) => some (v, h.new (.row n z .nil), some (.new h.next n z))
    | some (.map [] 0, v) => some (v, h.new (.map [] 0), some (.newMap h.next))
    | _ => none
  | _ => none

def isHeavy (op : Op) : Bool :=
  match kindOf op with
  | .eff => true
  | .call => true
  | _ => false

def guardF (ops : Array Oper) (g : Nat → Option AV) (o : Oper) : Option Bool :=
  match o.guard with
  | none => some true
  | some (j, want) => match ops[j]? with
    | some oj => match oj.dst with
      | some d => match g d with
        | some (.bool b) => some (b == want)
        | some (.tup _) => some false
        | _ => none
      | none => none
    | none => none

def guardOk (ops : Array Oper) (fr : Tr AV) (o : Oper) : Option Bool := guardF ops fr.get o

def enterA (P : Program) (f : FuncId) (args : List AV) : Option AFr :=
  match P.funcs[f]? with
  | some fn => match fn.body with
    | some c => match Nat.ble args.length fn.ntmps with
      | true => some ⟨f, ⟨none, []⟩, fn.ntmps, Tr.setL .nil 0 args, [.code c]⟩
      | false => none
    | none => none
  | none => none

def resultsA (P : Program) (fr : AFr) (h : AH) : Option AV :=
  match P.funcs[fr.fn]? with
  | none => none
  | some fn => match allOf (fun r => match r with
      | ResultVar.tmp t => fr.tmps.get t
      | ResultVar.cell a t => match fr.tmps.get a with
        | some (.ptr b off) => loadV P h t b off
        | _ => none) fn.results.toList with
    | some [v] => some v
    | some vs => some (.tup vs)
    | none => none

/-- behind a call: the frame below has its value -/
def popA (P : Program) (h : AH) (hs : HB) (l : Log) (v : AV) : List AFr → ARes
  | [] => .bad 54
  | c :: cs => match c.todo with
    | .reg ops (o :: rest) :: k => match setDst c.n c.tmps o.dst v with
      | some ts => .run ⟨⟨c.fn, c.ctl, c.n, ts, .reg ops rest :: k⟩, cs, h, hs, l⟩
      | none => .bad 21
    | .dreg ops all done floats _ (some x) :: k => match setDst c.n c.tmps x.o.dst v, recheck P h x.mask floats with
      | some ts, some fl => .run ⟨⟨c.fn, c.ctl, c.n, ts, .dreg ops all (done ||| 2 ^ x.i) fl all none :: k⟩, cs, h, hs, l⟩
      | _, _ => .bad 22
    | .inRF b :: k => .run ⟨⟨c.fn, c.ctl, c.n, c.tmps, .endRF b :: k⟩, cs, h, hs, l⟩
    | _ => .bad 2

def takeMarks (h : AH) : List Nat → Option AH
  | [] => some h
  | d :: ds => match h.bs.get d with
    | some (.dfr true) => takeMarks ⟨Tr.set (.dfr false) h.bs d, h.next⟩ ds
    | _ => none

def leaveA (P : Program) (m : AM) : ARes :=
  match takeMarks m.heap m.top.ctl.marks with
  | none => .bad 53
  | some h => match resultsA P m.top h with
    | none => .bad 1
    | some v => match m.below with
      | [] => .done v h m.log
      | c :: cs => popA P h m.hints m.log v (c :: cs)

def endSt : Option Code → LoopState
  | none => .ready
  | some _ => .done

/-- a round's end -/
def roundEndA (P : Program) (m : AM) (b : Nat) (jump : Option Code) : ARes :=
  match m.heap.bs.get b with
  | some (.loop ⟨_, _, fn, n, tmps, params, assign, body⟩) => popA P ⟨Tr.set (.loop ⟨endSt jump, jump, fn, n, tmps, params, assign, body⟩) m.heap.bs b, m.heap.next⟩ m.hints m.log (.bool jump.isNone) m.below
  | _ => .bad 52

def leaveJ (P : Program) (m : AM) (jump : Option Code) : ARes :=
  match m.top.ctl.rnd with
  | none => match jump with
    | none => leaveA P m
    | some .ret => leaveA P m
    | _ => .bad 51
  | some b => roundEndA P m b jump

def exitToA (id : Nat) : List AItem → Option (List AItem)
  | .inBlock id' :: k => match Nat.beq id' id with | true => some k | false => exitToA id k
  | _ :: k => exitToA id k
  | [] => none

def gotoInA (l : Nat) : List AItem → Option (List AItem)
  | .inScope body :: k => match findLabel body l with
    | some rest => some (.code rest :: .inScope body :: k)
    | none => gotoInA l k
  | _ :: k => gotoInA l k
  | [] => none

def calleeA (ev : Operand → Option AV) (c : Call) : Option (FuncId × List AV) :=
  match c.callee with
  | .value f => match ev f, allOf ev c.args.toList with
    | some (.fn (.func g) first cap), some as => some (g, first ++ as ++ cap)
    | _, _ => none
  | _ => none

/-- a call of what goes on with a loop over a function -/
def yieldA (ev : Operand → Option AV) (c : Call) : Option (Nat × List AV) :=
  match c.callee with
  | .value f => match ev f, allOf ev c.args.toList with
    | some (.yld b), some as => some (b, as)
    | _, _ => none
  | _ => none

def setMany (n : Nat) : Tr AV → List (Nat × AV) → Option (Tr AV)
  | t, [] => some t
  | t, (d, v) :: r => match Nat.blt d n with
    | true => setMany n (Tr.set v t d) r
    | false => none

def roundA (h : AH) (b : Nat) (as : List AV) : Option AFr :=
  match h.bs.get b with
  | some (.loop x) => match Nat.beq as.length x.params.size, setMany x.n x.tmps (x.params.toList.zip as) with
    | true, some ts => some ⟨x.fn, ⟨some b, []⟩, x.n, ts, [.code x.assign, .begin, .code x.body]⟩
    | _, _ => none
  | _ => none

/-- a loop over a function begins: the memory, the loops that the frame has entered, the loop's block -/
def loopA (m : AM) (params : Array Tmp) (assign body : Code) : Option (AH × List Nat × Nat) :=
  match m.top.ctl.rnd with
  | none => some (((m.heap.new (.dfr true)).new (.loop ⟨.ready, none, m.top.fn, m.top.n, m.top.tmps, params, assign, body⟩)), m.heap.next :: m.top.ctl.marks, m.heap.next + 1)
  | some b => match m.heap.bs.get b with
    | some (.loop _) => some (m.heap.new (.loop ⟨.ready, none, m.top.fn, m.top.n, m.top.tmps, params, assign, body⟩), m.top.ctl.marks, m.heap.next)
    | _ => none

/-- one operation that is no call of a function -/
def plainOp (P : Program) (fr : Tr AV) (h : AH) (op : Op) : Option (AV × AH) :=
  match kindOf op with
  | .pure => match pureOp P (ev fr) op with | some v => some (v, h) | none => none
  | .load => match op with
    | .load t a => match ev fr a with
      | some p => match loadA P h t p with | some v => some (v, h) | none => none
      | _ => none
    | _ => none
  | .new => match newOp P (ev fr) h.next op with | some (o, v) => some (v, h.new o) | none => none
  | .eff => effOp P (ev fr) h op
  | .call => none

def nextA (m : AM) (ops : Array Oper) (rest : List Oper) (k : List AItem) (o : Oper) (v : AV) (h : AH) : ARes :=
  match told m.top.fn m.hints o.dst v m.log with
  | (v', l) => match setDst m.top.n m.top.tmps o.dst v' with
    | some ts => .run ⟨⟨m.top.fn, m.top.ctl, m.top.n, ts, .reg ops rest :: k⟩, m.below, h, m.hints, l⟩
    | none => .bad 20

def floatsWith (i : Nat) (fl : Option Float) (floats : List (Nat × Float)) : List (Nat × Float) :=
  match fl with
  | some f => (i, f) :: floats
  | none => floats

/-- a region that draws its order: behind an operation that only the machine above has done -/
def lightA (m : AM) (ops : Array Oper) (all : List RI) (done : Nat) (k : List AItem) (r : List RI) (x : RI) (fl : List (Nat × Float)) (l : Log) (v : AV) (h : AH) : ARes :=
  match setDst m.top.n m.top.tmps x.o.dst v with
  | some ts => .run ⟨⟨m.top.fn, m.top.ctl, m.top.n, ts, .dreg ops all (done ||| 2 ^ x.i) fl r none :: k⟩, m.below, h, m.hints, l⟩
  | none => .bad 33

/-- behind one that both have done -/
def heavyA (P : Program) (m : AM) (ops : Array Oper) (all : List RI) (done : Nat) (floats : List (Nat × Float)) (k : List AItem) (x : RI) (v : AV) (h : AH) (re : Option (List (Nat × Float))) : ARes :=
  match told m.top.fn m.hints x.o.dst v m.log with
  | (v', l) => match setDst m.top.n m.top.tmps x.o.dst v', re with
    | some ts, some fl => .run ⟨⟨m.top.fn, m.top.ctl, m.top.n, ts, .dreg ops all (done ||| 2 ^ x.i) fl all none :: k⟩, m.below, h, m.hints, l⟩
    | _, _ => .bad 37

def stepD (P : Program) (S : Sum) (m : AM) (ops : Array Oper) (all : List RI) (done : Nat) (floats : List (Nat × Float)) (k : List AItem) : List RI → ARes
  | x :: r =>
    match done.testBit x.i || !allBits done (edgesOf x.o) with
    | true => .run ⟨⟨m.top.fn, m.top.ctl, m.top.n, m.top.tmps, .dreg ops all done floats r none :: k⟩, m.below, m.heap, m.hints, m.log⟩
    | false => match guardF ops (only x.nm m.top.tmps.get) x.o with
      | none => .bad 30
      | some false => lightA m ops all done k r x floats m.log undefA m.heap
      | some true => match isHeavy x.o.op with
        | true => .run ⟨⟨m.top.fn, m.top.ctl, m.top.n, m.top.tmps, .dreg ops all done floats r none :: k⟩, m.below, m.heap, m.hints, m.log⟩
        | false => match lightOp P (only x.nm m.top.tmps.get) m.heap x.o.op with
          | none => .bad 32
          | some (v, h, fl) => match told m.top.fn m.hints x.o.dst v m.log with
            | (v', l) => lightA m ops all done k r x (floatsWith x.i fl floats) l v' h
  | [] => match firstOf done all with
    | none => .run ⟨⟨m.top.fn, m.top.ctl, m.top.n, m.top.tmps, k⟩, m.below, m.heap, m.hints, m.log⟩
    | some x => match isFirst done x all && allBits done (edgesOf x.o) && isHeavy x.o.op, guardF ops (only x.nm m.top.tmps.get) x.o with
      | true, some true => match kindOf x.o.op with
        | .call => match x.o.op with
          | .call c => match calleeA (evF (only x.nm m.top.tmps.get)) c with
            | some (f, args) => match S f args m.heap with
              | some (v, some h) => heavyA P m ops all done floats k x v h (recheck P h x.mask floats)
              | some (v, none) => heavyA P m ops all done floats k x v m.heap (some floats)
              | none => match enterA P f args with
                | some g => .run ⟨g, ⟨m.top.fn, m.top.ctl, m.top.n, m.top.tmps, .dreg ops all done floats [] (some x) :: k⟩ :: m.below, m.heap, m.hints, m.log⟩
                | none => .bad 34
            | none => match yieldA (evF (only x.nm m.top.tmps.get)) c with
              | some (b, as) => match roundA m.heap b as with
                | some g => .run ⟨g, ⟨m.top.fn, m.top.ctl, m.top.n, m.top.tmps, .dreg ops all done floats [] (some x) :: k⟩ :: m.below, m.heap, m.hints, m.log⟩
                | none => .bad 55
              | none => .bad 35
          | _ => .bad 36
        | _ => match effOp P (evF (only x.nm m.top.tmps.get)) m.heap x.o.op with
          | some (v, h) => heavyA P m ops all done floats k x v h (recheck P h x.mask floats)
          | none => .bad 38
      | _, _ => .bad 39

def stepA (P : Program) (S : Sum) (m : AM) : ARes :=
  let fr := m.top
  let to (k : List AItem) : ARes := .run ⟨⟨fr.fn, fr.ctl, fr.n, fr.tmps, k⟩, m.below, m.heap, m.hints, m.log⟩
  match fr.todo with
  | [] => leaveJ P m none
  | .code .ret :: _ => leaveJ P m (some .ret)
  | .code .skip :: k => to k
  | .code (.label _) :: k => to k
  | .inBlock _ :: k => to k
  | .inScope _ :: k => to k
  | .code (.seq a b) :: k => to (.code a :: .code b :: k)
  | .code (.cond c t e) :: k => match ev fr.tmps c with
    | some (.bool true) => to (.code t :: k)
    | some (.bool false) => to (.code e :: k)
    | _ => .bad 3
  | .code (.block id b) :: k => to (.code b :: .inBlock id :: k)
  | .code (.loop b) :: k => to (.code b :: .inLoop b :: k)
  | .inLoop b :: k => to (.code b :: .inLoop b :: k)
  | .code (.scope b) :: k => to (.code b :: .inScope b :: k)
  | .code (.exit id) :: k => match exitToA id k with
    | some k' => to k'
    | none => leaveJ P m (some (.exit id))
  | .code (.goto l) :: k => match gotoInA l k with
    | some k' => to k'
    | none => leaveJ P m (some (.goto l))
  | .code (.region _ ops false) :: k => to (.reg ops ops.toList :: k)
  | .code (.region _ ops true) :: k => match regInfo ops with
    | some all => to (.dreg ops all 0 [] all none :: k)
    | none => .bad 40
  | .code (.rangeFunc f params assign body) :: k => match ev fr.tmps f with
    | some (.fn (.func g) first cap) => match loopA m params assign body with
      | some (h, marks, l) => match enterA P g (first ++ [.yld l] ++ cap) with
        | some a => .run ⟨a, ⟨fr.fn, ⟨fr.ctl.rnd, marks⟩, fr.n, fr.tmps, .inRF l :: k⟩ :: m.below, h, m.hints, m.log⟩
        | none => .bad 57
      | none => .bad 58
    | _ => .bad 6
  | .inRF _ :: _ => .bad 59
  | .endRF b :: k => match m.heap.bs.get b with
    | some (.loop ⟨st, pd, fn, n, tmps, params, assign, body⟩) => match st with
      | .busy => .bad 60
      | _ => .run ⟨⟨fr.fn, fr.ctl, fr.n, fr.tmps, (match pd with | none => k | some c => .code c :: k)⟩, m.below, ⟨Tr.set (.loop ⟨.exhausted, pd, fn, n, tmps, params, assign, body⟩) m.heap.bs b, m.heap.next⟩, m.hints, m.log⟩
    | _ => .bad 61
  | .begin :: k => match fr.ctl.rnd with
    | none => .bad 62
    | some b => match m.heap.bs.get b with
      | some (.loop ⟨st, pd, fn, n, tmps, params, assign, body⟩) => match st with
        | .ready => .run ⟨⟨fr.fn, fr.ctl, fr.n, fr.tmps, k⟩, m.below, ⟨Tr.set (.loop ⟨.busy, pd, fn, n, tmps, params, assign, body⟩) m.heap.bs b, m.heap.next⟩, m.hints, m.log⟩
        | _ => .bad 63
      | _ => .bad 64
  | .code (.refuse _) :: _ => .bad 7
  | .dreg ops all done floats rest none :: k => stepD P S m ops all done floats k rest
  | .dreg _ _ _ _ _ (some _) :: _ => .bad 8
  | .reg _ [] :: k => to k
  | .reg ops (o :: rest) :: k => match guardOk ops fr.tmps o with
    | none => .bad 9
    | some false => match setDst fr.n fr.tmps o.dst undefA with
      | some ts => .run ⟨⟨fr.fn, fr.ctl, fr.n, ts, .reg ops rest :: k⟩, m.below, m.heap, m.hints, m.log⟩
      | none => .bad 19
    | some true => match kindOf o.op with
      | .call => match o.op with
        | .call c => match calleeA (ev fr.tmps) c with
          | some (f, args) => match S f args m.heap with
            | some (v, g) => nextA m ops rest k o v (behind m.heap g)
            | none => match enterA P f args with
              | some g => .run ⟨g, fr :: m.below, m.heap, m.hints, m.log⟩
              | none => .bad 10
          | none => match yieldA (ev fr.tmps) c with
            | some (b, as) => match roundA m.heap b as with
              | some g => .run ⟨g, fr :: m.below, m.heap, m.hints, m.log⟩
              | none => .bad 56
            | none => .bad 11
        | _ => .bad 13
      | _ => match plainOp P fr.tmps m.heap o.op with
        | some (v, h) => nextA m ops rest k o v h
        | none => .bad 12

/-- a number is found first -/
def forceT {β : Type} (l : List AItem) (k : List AItem → β) : β :=
  match l with
  | [] => k []
  | .dreg ops all done floats rest wait :: r => forceN done fun done => k (.dreg ops all done floats rest wait :: r)
  | x :: r => k (x :: r)
def forceL {α β : Type} (l : List α) (k : List α → β) : β := List.rec (motive := fun _ => β) (k []) (fun x r _ => k (x :: r)) l
def forceC {β : Type} (c : ACtl) (k : ACtl → β) : β := match c with | ⟨r, m⟩ => k ⟨r, m⟩
def forceB {β : Type} (c : HB) (k : HB → β) : β := match c with | ⟨f, u⟩ => k ⟨f, u⟩
/-- what a machine has is found before it goes on -/
def forceM {β : Type} (m : AM) (k : AM → β) : β :=
  match m with
  | ⟨⟨fn, ctl, n, tmps, todo⟩, below, ⟨bs, next⟩, hints, log⟩ => forceN fn fun fn => forceC ctl fun ctl => forceN n fun n => tmps.force fun tmps => forceT todo fun todo =>
    forceL below fun below => bs.force fun bs => forceN next fun next => forceB hints fun hints => forceL log fun log => k ⟨⟨fn, ctl, n, tmps, todo⟩, below, ⟨bs, next⟩, hints, log⟩

def stepF (P : Program) (S : Sum) (m : AM) : ARes :=
  match stepA P S m with
  | .run m' => forceM m' .run
  | .done v h l => .done v h l
  | .bad n => .bad n

def startA (P : Program) (f : FuncId) (args : List AV) (h : AH) (hs : Hints) : Option AM :=
  match enterA P f args with
  | some g => some ⟨g, [], h, ⟨hs, noSure⟩, []⟩
  | none => none

def okLog : Log → Bool
  | [] => true
  | (c, b) :: l => (c == b) && okLog l

end
end Go.EV
