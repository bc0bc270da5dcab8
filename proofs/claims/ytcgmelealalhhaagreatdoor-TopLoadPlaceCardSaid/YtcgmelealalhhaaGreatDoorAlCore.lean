/- The abstract evaluator: what a piece of the model's code does to typed values, with no memory in sight. Its soundness stands in AlSound. -/
import Derived.Calls
import Derived.Orders
import Derived.Test.YtcgmelealalhhaaGreatDoorAlTab
namespace Go.Al
inductive Ty where
 | int (k : IntKind) | bool | str | pair (a b : Ty) | list (t : Ty) | alt (i : Nat) (a : Ty) (ia : Bool) (j : Nat) (b : Ty) (jb : Bool)
 deriving DecidableEq
@[reducible] def den : Ty → Type
 | .int _ => Int | .bool => Bool | .str => ByteArray | .pair a b => den a × den b | .list t => List (den t) | .alt _ a _ _ b _ => den a ⊕ den b
def dflt : (τ : Ty) → den τ
 | .int _ => (0 : Int) | .bool => false | .str => ByteArray.empty | .pair a b => (dflt a, dflt b) | .list _ => [] | .alt _ a _ _ _ _ => .inl (dflt a)
def ncell : Ty → Nat
 | .pair a b => ncell a + ncell b | _ => 1
inductive Loc where
 | box (t : Nat) | outer (j : Nat) | own (i : Nat)
 deriving DecidableEq
def Loc.eqb : Loc → Loc → Bool
 | .box a, .box b => Nat.beq a b | .outer a, .outer b => Nat.beq a b | .own a, .own b => Nat.beq a b | _, _ => false
inductive C where
 | und | skp | int (k : IntKind) (n : Int) | bool (b : Bool) | str (s : ByteArray) | nils | nili | nilf
 | sl (τ : Ty) (xs : List (den τ)) (nl : Option Bool) (ex : Bool)
 | slo (i : Nat) | slv (i lo hi : Nat)
 | ptr (l : Loc) (off room : Nat)
 | pel (i j off : Nat)
 | er (τ : Ty) (x : den τ) (off : Nat)
 | fn (f : Nat) (caps : List Loc)
 | ifc (t : Nat) (τ : Ty) (ag : Bool) (x : den τ)
 | ifs (i : Nat) (a : Ty) (ia : Bool) (j : Nat) (b : Ty) (jb : Bool) (x : den a ⊕ den b)
 | fnb (f : Nat) (τ : Ty) (ag : Bool) (x : den τ)
 | nilm | mpp (l : Loc)
inductive A1 where
 | one (c : C) | agg (cs : List C) | arr (τ : Ty) (n : Nat) (xs : List (den τ)) | lp (g : Nat) (p ts : List Nat) (cs : List C)
 | mp (κ : Ty) (ka : Bool) (τ : Ty) (va : Bool) (xs : List (den κ × den τ))
inductive AV where
 | a (x : A1) | tup (l : List A1)
inductive Obj where
 | bx (v : A1) | sl (τ : Ty) (xs : List (den τ)) (fr : Bool) | dead
abbrev Mem := List (Loc × Obj)
structure St where
 regs : List (Nat × AV)
 mem : Mem
def getR : List (Nat × AV) → Nat → AV
 | [], _ => .a (.one .und)
 | (k, v) :: r, t => bif Nat.beq k t then v else getR r t
def getM : Mem → Loc → Option Obj
 | [], _ => none
 | (k, v) :: r, t => bif Loc.eqb k t then some v else getM r t
def St.put (s : St) (t : Nat) (v : AV) : St := ⟨(t, v) :: s.regs, s.mem⟩
def St.put? (s : St) (d : Option Nat) (v : AV) : St := match d with | some t => s.put t v | none => s
def setMs : Mem → List (Loc × Obj) → Mem
 | m, [] => m
 | m, (l, o) :: r => setMs ((l, o) :: m) r
def yB : Nat := 4294967296
def constC : Value → C
 | .bool b => .bool b | .int k n => .int k n | .string s => .str s | .slice none 0 0 => .nils | .nilIface => .nili | .nilFunc => .nilf | .map none => .nilm | _ => .und
def constA : Value → AV
 | .agg cs => .a (.agg (cs.toList.map constC)) | .tuple _ => .a (.one .und) | v => .a (.one (constC v))
def pairN (τ : Ty) : Nat → Ty
 | 0 => τ | n + 1 => .pair τ (pairN τ n)
def getN (τ : Ty) : (n : Nat) → List (den τ) → Nat → den (pairN τ n)
 | 0, xs, j => xs.getD j (dflt τ) | n + 1, xs, j => (xs.getD j (dflt τ), getN τ n xs (j + 1))
def tabL : List (Nat × (IntKind × List Int)) → Nat → Option (IntKind × List Int)
 | [], _ => none | (g, x) :: r, h => bif Nat.beq g h then some x else tabL r h
def tabOf (g : Nat) : Option (IntKind × List Int) := tabL tabs g
def tabX : Operand → Option (IntKind × List Int)
 | .global g => tabOf g | _ => none
def ev (s : St) : Operand → AV
 | .tmp t => getR s.regs t | .const v => constA v | .func f => .a (.one (bif Nat.blt f yB then .fn f [] else .und)) | .global _ => .a (.one .und)
def eqK : (κ : Ty) → den κ → den κ → Bool
 | .int _, a, b => (show Int from a) == (show Int from b) | .bool, a, b => (show Bool from a) == (show Bool from b) | .str, a, b => decide ((show ByteArray from a) = (show ByteArray from b))
 | .pair s t, a, b => eqK s a.1 b.1 && eqK t a.2 b.2 | _, _, _ => false
def midx (κ : Ty) {α : Type} (k : den κ) : List (den κ × α) → Nat
 | [] => 0 | e :: r => bif eqK κ k e.1 then 0 else midx κ k r + 1
def mhas (κ : Ty) {α : Type} (k : den κ) : List (den κ × α) → Bool
 | [] => false | e :: r => bif eqK κ k e.1 then true else mhas κ k r
def mget (κ : Ty) {α : Type} (k : den κ) (d : α) : List (den κ × α) → α
 | [] => d | e :: r => bif eqK κ k e.1 then e.2 else mget κ k d r
def mput (κ : Ty) {α : Type} (k : den κ) (v : α) : List (den κ × α) → List (den κ × α)
 | [] => [(k, v)] | e :: r => bif eqK κ k e.1 then (e.1, v) :: r else e :: mput κ k v r
def cs : (τ : Ty) → den τ → List C
 | .int k, n => [.int k n] | .bool, b => [.bool b] | .str, s => [.str s]
 | .pair a b, x => cs a x.1 ++ cs b x.2
 | .list t, xs => [.sl t xs none false]
 | .alt i a ia j b jb, x => [.ifs i a ia j b jb x]
def castD {a b : Ty} (h : a = b) (x : den a) : den b := h ▸ x
def dc1 : (τ : Ty) → C → Option (den τ)
 | .int k, .int k' n => if k' = k then some n else none
 | .bool, .bool b => some b
 | .str, .str s => some s
 | .list _, .nils => some []
 | .list t, .sl t' xs _ _ => if h : t' = t then some (h ▸ xs) else none
 | .alt i a ia j b jb, .ifs i' a' ia' j' b' jb' x => if h : i' = i ∧ a' = a ∧ ia' = ia ∧ j' = j ∧ b' = b ∧ jb' = jb then some (h.2.1 ▸ h.2.2.2.2.1 ▸ x) else none
 | .alt i a ia j b jb, .ifc t τ ag x =>
  if h : t = i ∧ τ = a ∧ ag = ia then some (.inl (h.2.1 ▸ x)) else if h : t = j ∧ τ = b ∧ ag = jb then some (.inr (h.2.1 ▸ x)) else none
 | _, _ => none
def dcOne (τ : Ty) : List C → Option (den τ × List C)
 | [] => none
 | c :: r => match dc1 τ c with | some x => some (x, r) | none => none
def dcs : (τ : Ty) → List C → Option (den τ × List C)
 | .pair a b, l => match dcs a l with
  | some (x, r) => match dcs b r with | some (y, r') => some ((x, y), r') | none => none
  | none => none
 | .int k, l => dcOne (.int k) l
 | .bool, l => dcOne .bool l
 | .str, l => dcOne .str l
 | .list t, l => dcOne (.list t) l
 | .alt i a ia j b jb, l => dcOne (.alt i a ia j b jb) l
def dcAll (τ : Ty) (l : List C) : Option (den τ) := match dcs τ l with | some (x, []) => some x | _ => none
def dcRow (τ : Ty) : Nat → List C → Option (List (den τ))
 | 0, [] => some [] | 0, _ => none
 | n + 1, l => match dcs τ l with
  | some (x, r) => match dcRow τ n r with | some xs => some (x :: xs) | none => none
  | none => none
def cut {α : Type} (xs : List α) (lo hi : Nat) : List α := (xs.drop lo).take (hi - lo)
def resolve (m : Loc → Option Obj) : C → C
 | .slo i => match m (.own i) with | some (.sl τ xs _) => .sl τ xs (bif Nat.blt i 4096 then some false else none) false | _ => .und
 | .slv i lo hi => match m (.own i) with | some (.sl τ xs _) => .sl τ (cut xs lo hi) none false | _ => .und
 | c => c
def ownsOf : List C → List Nat
 | [] => [] | .slo i :: r => i :: ownsOf r | .slv i _ _ :: r => i :: ownsOf r | _ :: r => ownsOf r
def freeze (m : Loc → Option Obj) : List Nat → List (Loc × Obj)
 | [] => []
 | i :: r => match m (.own i) with | some (.sl τ xs _) => (.own i, .sl τ xs true) :: freeze m r | _ => freeze m r
def alive (μ : Loc → Option Obj) : C → Bool
 | .und => false | .skp => false | .pel .. => false
 | .slo i => match μ (.own i) with | some (.sl ..) => true | _ => false
 | .slv .. => false
 | _ => true
def cells (μ : Loc → Option Obj) : A1 → Option (List C)
 | .one c => bif alive μ c then some [c] else none
 | .agg l => bif l.all (alive μ) then some l else none
 | .arr τ n xs => match τ, xs with
  | .int k, xs => some ((List.range n).map fun i => .int k (List.getD xs i (0 : Int)))
  | .bool, xs => some ((List.range n).map fun i => .bool (List.getD xs i false))
  | _, _ => none
 | .lp .. => none
 | .mp .. => none
def atom : Ty → Bool
 | .int _ | .bool => true | _ => false
structure Eff where
 val : AV
 wr : List (Loc × Obj)
 rd : List Loc
def ret (v : AV) : Eff := ⟨v, [], []⟩
def one (c : C) : AV := .a (.one c)
def asC : AV → C | .a (.one c) => c | _ => .und
structure Hint where
 ty : Nat → Option Ty            -- an element type's shape
 eqa : Nat → Option Nat          -- an array type of integers, or of structs of integers, that is compared cell by cell: how many cells
 eqn : Nat → Option (List Bool)  -- a struct type that is compared cell by cell: its cells (true: an integer, false: a bool)
 keyT : Nat → Bool               -- the types of keys that are known
 nz : Nat → Nat → Bool           -- assignments (to, from) of slices that are not empty
variable (P : Program) (H : Hint)
def sizeT (t : Nat) : Option Nat := (P.info? t).map (·.size)
def aggT (t : Nat) : Option Bool := match P.underlying t with | some (.struct _) => some true | some (.array _ _) => some true | some _ => some false | none => none
def atomsC : List C → Option (A1)
 | .int k n :: r => match dcRow (.int k) (r.length + 1) (.int k n :: r) with | some xs => some (.arr (.int k) (r.length + 1) xs) | none => none
 | .bool b :: r => match dcRow .bool (r.length + 1) (.bool b :: r) with | some xs => some (.arr .bool (r.length + 1) xs) | none => none
 | _ => none
def zeroA (t : Nat) : Option A1 := match P.info? t with
 | some i => match i.zero with
  | some (.agg cs) => match P.underlying t with
   | some (.array _ _) => atomsC (cs.toList.map constC)
   | _ => some (.agg (cs.toList.map constC))
  | some v => some (.one (constC v))
  | none => none
 | none => none
def asA1 : AV → Option A1
 | .a (.one .und) => none | .a x => some x | .tup _ => none
def fillC (place : Nat → Option (Nat × Nat)) (l : List C) : List (Nat × List C) → Option (List C)
 | [] => some l
 | (i, v) :: r => match place i with
  | some (off, size) => bif Nat.beq v.length size && Nat.ble (off + size) l.length then fillC place (l.take off ++ v ++ l.drop (off + size)) r else none
  | none => none
def partsC (ρ : Operand → AV) (μ : Loc → Option Obj) : List (Nat × Operand) → Option (List (Nat × List C))
 | [] => some []
 | (i, x) :: r => match ρ x with
  | .a v => match cells μ v with
   | some l => match partsC ρ μ r with | some m => some ((i, l) :: m) | none => none
   | none => none
  | _ => none
def fieldOf (t f : Nat) : Option Field := match P.underlying t with | some (.struct fs) => fs[f]? | _ => none
def placesOf (t : Nat) : Option (Nat → Option (Nat × Nat)) := match P.underlying t with
 | some (.struct fs) => match fs.toList.mapM (fun f => (P.info? f.type).map fun i => (f.offset, i.size)) with
  | some pl => some fun i => pl.toArray[i]?
  | none => none
 | some (.array _ e) => match P.info? e with | some i => some fun j => some (j * i.size, i.size) | none => none
 | _ => none
def takeCells (agg : Bool) (n off : Nat) : A1 → Option A1
 | .one c => bif !agg && Nat.beq off 0 then some (.one c) else none
 | .agg l => bif agg then (bif Nat.ble (off + n) l.length then some (.agg ((l.drop off).take n)) else none) else (match l[off]? with | some c => some (.one c) | none => none)
 | .arr τ N xs => bif agg then (bif Nat.beq n N && Nat.beq off 0 then some (.arr τ N xs) else match τ, xs with
   | .int k, xs => some (.agg ((List.range n).map fun i => .int k (List.getD xs (off + i) (0 : Int))))
   | .bool, xs => some (.agg ((List.range n).map fun i => .bool (List.getD xs (off + i) false)))
   | _, _ => none)
  else match τ, xs with
   | .int k, xs => some (.one (.int k (List.getD xs off (0 : Int))))
   | .bool, xs => some (.one (.bool (List.getD xs off false)))
   | _, _ => none
 | .lp .. => none
 | .mp .. => none
def setRow {α : Type} (xs : List α) (off : Nat) (ys : List α) : List α := xs.take off ++ ys ++ xs.drop (off + ys.length)
def putCells (off : Nat) (new : List C) : A1 → Option A1
 | .one _ => match new with | [c] => bif Nat.beq off 0 then some (.one c) else none | _ => none
 | .agg l => bif Nat.ble (off + new.length) l.length then some (.agg (l.take off ++ new ++ l.drop (off + new.length))) else none
 | .arr τ N xs => match new with
  | [c] => match τ, xs, c with
   | .int k, xs, .int k' n => if k' = k then some (.arr (.int k) N (List.set xs off n)) else none
   | .bool, xs, .bool b => some (.arr .bool N (List.set xs off b))
   | _, _, _ => none
  | _ => match dcRow τ new.length new with
   | some ys => bif Nat.beq new.length N && Nat.beq off 0 && atom τ then some (.arr τ N ys) else bif atom τ then some (.arr τ N (setRow xs off ys)) else none
   | none => none
 | .lp .. => none
 | .mp .. => none
def nA : A1 → Nat
 | .one _ => 1 | .agg l => l.length | .arr _ n _ => n | .lp .. => 0 | .mp .. => 0
def roomOf (μ : Loc → Option Obj) (l : Loc) : Nat := match μ l with | some (.bx v) => nA v | _ => 0
def asInt : C → Option Int
 | .int _ n => some n | _ => none
def isU : IntKind → Bool
 | .u8 | .u16 | .u32 | .u64 => true | _ => false
def isNil : C → Option Bool
 | .nils => some true | .sl _ _ nl _ => nl | _ => none
def binI (op : BinOp) (k : IntKind) (x y : Int) : Option C :=
 match op with
 | .add => some (.int k (k.wrap (x + y))) | .sub => some (.int k (k.wrap (x - y))) | .mul => some (.int k (k.wrap (x * y)))
 | .eql => some (.bool (x == y)) | .neq => some (.bool (x != y))
 | .lss => some (.bool (decide (x < y))) | .leq => some (.bool (decide (x ≤ y))) | .gtr => some (.bool (decide (x > y))) | .geq => some (.bool (decide (x ≥ y)))
 | .and => some (.int k (k.wrap (BitVec.ofInt k.bits x &&& BitVec.ofInt k.bits y).toNat))
 | .or => some (.int k (k.wrap (BitVec.ofInt k.bits x ||| BitVec.ofInt k.bits y).toNat))
 | _ => none
def shiftI (op : BinOp) (k : IntKind) (x y : Int) : Option C :=
 match op with
 | .shl => some (.int k (k.wrap (x * 2 ^ (min y.toNat k.bits))))
 | .shr => some (.int k (x.fdiv (2 ^ (min y.toNat k.bits))))
 | _ => none
def eqC : C → C → Option Bool
 | .int k a, .int k' b => if k = k' then some (a == b) else none
 | .bool a, .bool b => some (a == b)
 | _, _ => none
def eqCs : List C → List C → Option Bool
 | [], [] => some true
 | a :: r, b :: r' => match eqC a b, eqCs r r' with | some x, some y => some (x && y) | _, _ => none
 | _, _ => none
def okKs : List Bool → List C → Bool
 | [], [] => true | true :: r, .int .. :: q => okKs r q | false :: r, .bool _ :: q => okKs r q | _, _ => false
structure CallS where
 run : (R : Type) → List A1 → List A1 → Mem → (AV → Mem → Option R) → Option R
def locsC : C → List Loc
 | .ptr l _ _ => [l] | .fn _ caps => caps | .mpp l => [l] | _ => []
def locsCs : List C → List Loc
 | [] => [] | c :: r => locsC c ++ locsCs r
def locsA : A1 → List Loc
 | .one c => locsC c | .agg l => locsCs l | .arr .. => [] | .lp _ _ _ l => locsCs l | .mp .. => []
def addL (l : List Loc) (x : Loc) : List Loc := bif l.any (Loc.eqb x) then l else l ++ [x]
def addLs (l : List Loc) : List Loc → List Loc
 | [] => l | x :: r => addLs (addL l x) r
def idxL (x : Loc) : List Loc → Nat
 | [] => 0 | y :: r => bif Loc.eqb x y then 0 else idxL x r + 1
def mapC (f : C → C) : A1 → A1
 | .one c => .one (f c) | .agg l => .agg (l.map f) | .arr τ n xs => .arr τ n xs | .lp g p ts l => .lp g p ts (l.map f) | .mp κ ka τ va xs => .mp κ ka τ va xs
def mapL (f : Loc → Loc) : C → C
 | .ptr l off n => .ptr (f l) off n | .fn g caps => .fn g (caps.map f) | .mpp l => .mpp (f l) | .pel .. => .und | c => c
def a1s : List AV → Option (List A1)
 | [] => some []
 | .a (.one .und) :: _ => none
 | .a x :: r => match a1s r with | some l => some (x :: l) | none => none
 | .tup _ :: _ => none
def bxs (m : Loc → Option Obj) (all : List Loc) : List Loc → Option (List A1)
 | [] => some []
 | l :: r => match m l with
  | some (.bx v) => (bif (locsA v).all (fun x => all.any (Loc.eqb x)) then match bxs m all r with | some x => some (v :: x) | none => none else none)
  | _ => none
def locsM (m : Loc → Option Obj) : List Loc → List Loc
 | [] => []
 | l :: r => (match m l with | some (.bx v) => locsA v | _ => []) ++ locsM m r
def closeL (m : Loc → Option Obj) : Nat → List Loc → List Loc
 | 0, ls => ls | n + 1, ls => closeL m n (addLs ls (locsM m ls))
def cellsL : List A1 → List C
 | [] => [] | .one c :: r => c :: cellsL r | .agg l :: r => l ++ cellsL r | .arr .. :: r => cellsL r | .lp _ _ _ l :: r => l ++ cellsL r | .mp .. :: r => cellsL r
def flatT : Ty → Bool
 | .int _ | .bool | .str => true | .pair a b => flatT a && flatT b | _ => false
def mayLie : C → Bool
 | .sl .. | .er .. | .ifc .. | .ifs .. | .fnb .. => true | _ => false
def resL : AV → List A1
 | .a x => [x] | .tup l => l
def mpLies : A1 → Bool
 | .mp _ _ τ _ _ => !flatT τ | _ => false
def memLies : Mem → Bool
 | [] => false
 | (_, .bx v) :: r => (cellsL [v]).any mayLie || mpLies v || memLies r
 | (_, .sl τ _ _) :: r => !flatT τ || memLies r
 | (_, .dead) :: r => memLies r
def mapAV (f : C → C) : AV → AV
 | .a x => .a (mapC f x) | .tup l => .tup (l.map (mapC f))
def nthL (ls : List Loc) (j : Nat) : Loc := ls.getD j (.outer 0)
def bxN (t b : Nat) : Nat := 1048576 + t * 4096 + b
def backL (t : Nat) (ls : List Loc) : Loc → Loc
 | .outer j => nthL ls j | .box b => .box (bxN t b) | l => l
def renOwn (t : Nat) (ls : List Loc) : C → C
 | .slo i => .slo (t * 64 + i) | .ptr l o n => .ptr (backL t ls l) o n | .fn g caps => .fn g (caps.map (backL t ls)) | .mpp l => .mpp (backL t ls l) | c => c
def backM (t : Nat) (ls : List Loc) : Mem → Mem
 | [] => []
 | (.outer j, .bx v) :: r => (nthL ls j, .bx (mapC (renOwn t ls) v)) :: backM t ls r
 | (.own i, o) :: r => (.own (t * 64 + i), o) :: backM t ls r
 | (.box b, .bx v) :: r => (.box (bxN t b), .bx (mapC (renOwn t ls) v)) :: backM t ls r
 | _ :: r => backM t ls r
def freshM (m : Loc → Option Obj) : Mem → Bool
 | [] => true
 | (.own i, _) :: r => (match m (.own i) with | none => true | some _ => false) && freshM m r
 | _ :: r => freshM m r
def freshB (m : Loc → Option Obj) (t : Nat) : Mem → Bool
 | [] => true
 | (.box b, _) :: r => (match m (.box (bxN t b)) with | none => true | some _ => false) && freshB m t r
 | _ :: r => freshB m t r
def ownLs : List Nat → List Loc
 | [] => [] | i :: r => .own i :: ownLs r
def resOk : C → Bool
 | .int .. | .bool _ | .str _ | .nils | .nili | .nilf | .sl .. | .slo _ | .ifc .. | .ifs .. | .fnb .. => true
 | .ptr (.outer _) _ _ => true
 | .ptr (.box _) _ _ => true
 | .mpp (.outer _) => true
 | .mpp (.box _) => true
 | .nilm => true
 | .fn _ caps => caps.all fun l => match l with | .own _ => false | _ => true
 | _ => false
def memOk (bs : List A1) : Mem → Bool
 | [] => true
 | (.outer j, .bx v) :: r => (match bs[j]? with | some b => Nat.beq (nA v) (nA b) | none => false) && (cellsL [v]).all resOk && memOk bs r
 | (.own _, .sl _ _ false) :: r => memOk bs r
 | (.box _, .bx v) :: r => (cellsL [v]).all resOk && memOk bs r
 | _ => false
def nodupM : Mem → Bool
 | [] => true | (l, _) :: r => (match getM r l with | none => true | some _ => false) && nodupM r
def restM (μ : Loc → Option Obj) (m : Mem) : Nat → List Loc → List A1 → List (Loc × Obj)
 | j, l :: ls, b :: bs => match getM m (.outer j), ownsOf (cellsL [b]) with
  | none, _ :: _ => (l, .bx (mapC (resolve μ) b)) :: restM μ m (j + 1) ls bs
  | _, _ => restM μ m (j + 1) ls bs
 | _, _, _ => []
def restO (m : Mem) : Nat → List A1 → List Nat
 | j, b :: bs => match getM m (.outer j) with
  | none => ownsOf (cellsL [b]) ++ restO m (j + 1) bs
  | some _ => restO m (j + 1) bs
 | _, [] => []
def hasN (i : Nat) : List Nat → Bool
 | [] => false | j :: r => bif Nat.beq i j then true else hasN i r
def nodupH : List Nat → Bool
 | [] => true | x :: r => !(hasN x r) && nodupH r
def idxN (i : Nat) : List Nat → Nat
 | [] => 0 | j :: r => bif Nat.beq i j then 0 else idxN i r + 1
def countN (i : Nat) : List Nat → Nat
 | [] => 0 | j :: r => bif Nat.beq i j then countN i r + 1 else countN i r
def liveO (μ : Loc → Option Obj) (i : Nat) : Bool := match μ (.own i) with | some (.sl _ _ false) => true | _ => false
def givesOf (μ : Loc → Option Obj) (all : List Nat) : List C → List Nat
 | [] => []
 | .slo i :: r => bif liveO μ i && Nat.beq (countN i all) 1 then i :: givesOf μ all r else givesOf μ all r
 | _ :: r => givesOf μ all r
def gname (i k : Nat) : Nat := bif Nat.blt i 4096 then 2048 + k else 4194304 + k
def srcG : List Nat → Nat → Nat → Option Nat
 | [], _, _ => none
 | i :: r, k, n => bif Nat.beq (gname i k) n then some i else srcG r (k + 1) n
def gvM (μ : Loc → Option Obj) : List Nat → Nat → Mem
 | [], _ => []
 | i :: r, k => match μ (.own i) with | some o => (.own (gname i k), o) :: gvM μ r (k + 1) | none => gvM μ r (k + 1)
def giveC (gl : List Nat) (μ : Loc → Option Obj) : C → C
 | .slo i => bif hasN i gl then .slo (gname i (idxN i gl)) else resolve μ (.slo i)
 | c => resolve μ c
def lentOf (gl : List Nat) : List C → List Nat
 | [] => [] | .slo i :: r => bif hasN i gl then lentOf gl r else i :: lentOf gl r | .slv i _ _ :: r => i :: lentOf gl r | _ :: r => lentOf gl r
def deadM : List Nat → List (Loc × Obj)
 | [] => [] | i :: r => (.own i, .dead) :: deadM r
def givOk (gl ow rest : List Nat) : Bool :=
 nodupH gl && gl.all (fun i => match srcG gl 0 (gname i (idxN i gl)) with | some j => Nat.beq j i | none => false) && ow.all (fun i => !hasN i gl) && rest.all (fun i => !hasN i gl)
def lies (res : AV) (m : Mem) : Bool := (cellsL (resL res)).any mayLie || memLies m
def callK {R : Type} (c : CallS) (t : Nat) (μ : Loc → Option Obj) (args : List AV) (k : Eff → Option R) : Option R :=
 match a1s args with
 | none => none
 | some as =>
  let ls := closeL μ 3 (addLs [] (locsCs (cellsL as)))
  match bxs μ ls ls with
  | none => none
  | some bs =>
   let gl := givesOf μ (ownsOf (cellsL as) ++ ownsOf (cellsL bs)) (cellsL bs)
   let ow := lentOf gl (cellsL as) ++ lentOf gl (cellsL bs)
   c.run R (as.map (mapC fun x => mapL (fun l => .outer (idxL l ls)) (giveC gl μ x))) (bs.map (mapC fun x => mapL (fun l => .outer (idxL l ls)) (giveC gl μ x))) (gvM μ gl 0) fun res m =>
   bif (cellsL (resL res)).all resOk && memOk bs m && nodupM m && freshM μ (backM t ls m) && freshB μ t m && nodupM (restM μ m 0 ls bs ++ backM t ls m) && givOk gl ow (restO m 0 bs) then
    k ⟨mapAV (renOwn t ls) res, freeze μ (bif lies res m then ow else restO m 0 bs) ++ (deadM gl ++ (restM μ m 0 ls bs ++ backM t ls m)), ls ++ ownLs (ow ++ gl)⟩
   else none
def noneM (m : Loc → Option Obj) (l : Loc) : Bool := match m l with | none => true | some _ => false
def retO {R : Type} (x : Option C) (k : Eff → Option R) : Option R := match x with | some c => k (ret (one c)) | none => none
def ptrT (t : Nat) : Bool := match P.underlying t with | some (.pointer _) => true | some _ => false | none => true
def methodOf (t : Nat) (name : String) : Option Nat := match P.info? t with
 | some i => match i.methods.find? (·.name == name) with
  | some m => bif m.path.isEmpty && !ptrT P t then (match m.func with | some (f, false) => bif Nat.blt f yB then some f else none | _ => none) else none
  | none => none
 | none => none
def recvA (τ : Ty) (ag : Bool) (x : den τ) : AV := bif ag then .a (.agg (cs τ x)) else match cs τ x with | [c] => one c | _ => one .und
def boundLen : Nat := 2 ^ 32
def loOf : Option C → Option Int
 | some c => asInt c | none => some 0
def hiOf (len : Nat) : Option C → Option Int
 | some c => asInt c | none => some (len : Int)
def sliceK {R : Type} (x : C) (len : Nat) (lo hi mx : Option C) (k : Eff → Option R) : Option R :=
 match loOf lo, hiOf len hi, mx with
 | some l, some h, none =>
  if (decide (0 ≤ l) && decide (l ≤ h) && decide (h ≤ (len : Int))) = true then
   match x with
   | .sl τ xs _ _ => k (ret (one (.sl τ (cut xs l.toNat h.toNat) none false)))
   | .slo i => k ⟨one (.slv i l.toNat h.toNat), [], [.own i]⟩
   | _ => none
  else none
 | some l, some h, some c => match hi, asInt c, x with
  | some _, some m, .sl τ xs _ _ =>
   if (decide (0 ≤ l) && decide (l ≤ h) && decide (h ≤ (len : Int)) && (m == h)) = true then
    k (ret (one (.sl τ (cut xs l.toNat h.toNat) none true)))
   else none
  | _, _, _ => none
 | _, _, _ => none
def sliceA {R : Type} (l : Loc) {τ : Ty} (xs : List (den τ)) (len : Nat) (lo hi : Option C) (k : Eff → Option R) : Option R :=
 match loOf lo, hiOf len hi with
 | some a, some h => if (decide (0 ≤ a) && decide (a ≤ h) && decide (h ≤ (len : Int))) = true then k ⟨one (.sl τ (cut xs a.toNat h.toNat) (some false) false), [(l, .dead)], [l]⟩ else none
 | _, _ => none
def appN (t : Nat) : C → Nat
 | .slo i => bif Nat.blt i 4096 && Nat.blt t 4096 then t else 524288 + t | .sl _ _ _ true => t | _ => 524288 + t
def bytesT (t : Nat) : Nat := match P.info? t with | some i => i.bytes | none => 0
def appendK {R : Type} (e : Nat) (t : Nat) (μ : Loc → Option Obj) (x y : C) (k : Eff → Option R) : Option R :=
 match H.ty e, sizeT P e, zeroA P e with
 | some τ0, some n, some z =>
  match dc1 (.list τ0) (resolve μ y), dc1 (.list τ0) (resolve μ x) with
  | some ys, some xs =>
   bif Nat.beq (ncell τ0) n && noneM μ (.own t) && Nat.ble (bytesT P e) 4096 && Nat.beq (nA z) n then
    if Nat.ble (xs.length + ys.length) boundLen = true then
     match x with
     | .nils => k ⟨one (.slo t), [(.own t, .sl τ0 (xs ++ ys) false)], ownLs (ownsOf [y])⟩
     | .slo i => match μ (.own i) with
      | some (.sl _ _ false) => k ⟨one (.slo t), [(.own i, .dead), (.own t, .sl τ0 (xs ++ ys) false)], .own i :: ownLs (ownsOf [y])⟩
      | _ => none
     | .slv i lo _ => match μ (.own i) with
      | some (.sl _ _ false) => bif Nat.beq lo 0 then k ⟨one (.slo t), [(.own i, .dead), (.own t, .sl τ0 (xs ++ ys) false)], .own i :: ownLs (ownsOf [y])⟩ else none
      | _ => none
     | .sl _ _ _ true => match ys with
      | [] => none
      | _ :: _ => k ⟨one (.slo t), [(.own t, .sl τ0 (xs ++ ys) false)], ownLs (ownsOf [y])⟩
     | _ => none
    else none
   else none
  | _, _ => none
 | _, _, _ => none
def zerosK {R : Type} (e nm : Nat) (μ : Loc → Option Obj) (l : Int) (k : Eff → Option R) : Option R :=
 match H.ty e, sizeT P e, zeroA P e with
 | some τ, some n, some z => match cells μ z with
  | some zl => match dcAll τ zl with
   | some d => bif Nat.beq (ncell τ) n && noneM μ (.own nm) && Nat.ble (bytesT P e) 4096 && Nat.beq zl.length n then
     (if (decide (1 ≤ l) && decide (l ≤ (boundLen : Int))) = true then k ⟨one (.slo nm), [(.own nm, .sl τ (List.replicate l.toNat d) false)], []⟩ else none)
    else none
   | none => none
  | none => none
 | _, _, _ => none
def lenK {R : Type} (μ : Loc → Option Obj) (d : Option TypeDesc) (x : C) (k : Eff → Option R) : Option R := match d, x with
 | some (.slice _), .nils => k (ret (one (.int .i64 0)))
 | some (.slice _), .sl _ xs _ _ => k (ret (one (.int .i64 (xs.length : Int))))
 | some (.slice _), .slo i => match μ (.own i) with | some (.sl _ xs _) => k ⟨one (.int .i64 (xs.length : Int)), [], [.own i]⟩ | _ => none
 | some .string, .str x => k (ret (one (.int .i64 (x.size : Int))))
 | some (.map _ _), .nilm => k (ret (one (.int .i64 0)))
 | some (.map _ _), .mpp l => match μ l with | some (.bx (.mp _ _ _ _ xs)) => k ⟨one (.int .i64 (xs.length : Int)), [], [l]⟩ | _ => none
 | _, _ => none
def flagA : A1 → Option Bool
 | .one _ => some false | .agg _ => some true | .arr .. => none | .lp .. => none | .mp .. => none
def capLoc : C → Option Loc
 | .ptr l off _ => bif Nat.beq off 0 then some l else none | _ => none
def arrB (e : Nat) (z : A1) : A1 := match P.underlying e, z with
 | some (.array _ _), .agg l => (match atomsC l with | some y => y | none => .agg l)
 | _, z => z
def arrOf : A1 → Option A1
 | .agg l => atomsC l | .arr τ n xs => some (.arr τ n xs) | .one _ => none | .lp .. => none | .mp .. => none
def flagM : A1 → Option Bool
 | .one _ => some false | .agg _ => some true | .arr .. => some true | .lp .. => none | .mp .. => none
def keyD (μ : Loc → Option Obj) (κ : Ty) (ka : Bool) : AV → Option (den κ)
 | .a v => match cells μ v, flagM v with
  | some l, some f => if f = ka then dcAll κ l else none
  | _, _ => none
 | _ => none
def mapT (t : Nat) : Option (Ty × Bool × Ty × Bool × Nat) := match P.underlying t with
 | some (.map kt et) => match H.ty kt, H.ty et, aggT P kt, aggT P et with
  | some κ, some τ, some ka, some va => bif H.keyT kt && flatT κ then some (κ, ka, τ, va, et) else none
  | _, _, _, _ => none
 | _ => none
def recvL (τ : Ty) (ag : Bool) (x : den τ) : A1 := bif ag then .agg (cs τ x) else match cs τ x with | [c] => .one c | _ => .one .und
def zeroD (μ : Loc → Option Obj) (t : Nat) (τ : Ty) : Option (den τ) := match zeroA P t with
 | some z => match cells μ z with | some l => dcAll τ l | none => none
 | none => none
def zeroF (t : Nat) : Option Bool := match P.info? t with
 | some i => match i.zero with | some (.agg _) => some true | some _ => some false | none => none
 | none => none
def lookK {R : Type} (ρ : Operand → AV) (μ : Loc → Option Obj) (ty : Nat) (x i : Operand) (ok : Bool) (k : Eff → Option R) : Option R :=
 match mapT P H ty, asC (ρ x) with
  | some (κ, ka, τ, va, et), .mpp l => match μ l, keyD μ κ ka (ρ i), zeroD P μ et τ with
   | some (.bx (.mp κ' ka' τ' va' xs)), some key, some d => if h : κ' = κ ∧ ka' = ka ∧ τ' = τ ∧ va' = va ∧ zeroF P et = some va then
     k ⟨bif ok then .tup [recvL τ va (mget κ key d (h.1 ▸ h.2.2.1 ▸ xs)), .one (.bool (mhas κ key (h.1 ▸ h.2.2.1 ▸ xs : List (den κ × den τ))))] else .a (recvL τ va (mget κ key d (h.1 ▸ h.2.2.1 ▸ xs))), [], [l]⟩
    else none
   | _, _, _ => none
  | _, _ => none
def valD (μ : Loc → Option Obj) (τ : Ty) (va : Bool) : AV → Option (den τ)
 | .a v => match cells μ v, flagM v with
  | some l, some f => if f = va ∧ ownsOf l = [] then dcAll τ l else none
  | _, _ => none
 | _ => none
def putK {R : Type} (ρ : Operand → AV) (μ : Loc → Option Obj) (ty : Nat) (x i y : Operand) (k : Eff → Option R) : Option R :=
 match mapT P H ty, asC (ρ x) with
  | some (κ, ka, τ, va, _), .mpp l => match μ l, keyD μ κ ka (ρ i), valD μ τ va (ρ y) with
   | some (.bx (.mp κ' ka' τ' va' xs)), some key, some u => if h : κ' = κ ∧ ka' = ka ∧ τ' = τ ∧ va' = va then
     k ⟨one .und, [(l, .bx (.mp κ ka τ va (mput κ key u (h.1 ▸ h.2.2.1 ▸ xs))))], [l]⟩
    else none
   | _, _, _ => none
  | _, _ => none
def nzO (d : Nat) : Operand → Bool
 | .tmp y => H.nz d y | _ => false
def nzK {R : Type} (μ : Loc → Option Obj) (v : AV) (k : Eff → Option R) : Option R := match v with
 | .a (.one c) => match resolve μ c with
  | .sl τ xs none ex => if (!(List.isEmpty xs)) = true then k ⟨one (.sl τ xs (some false) ex), freeze μ (ownsOf [c]), ownLs (ownsOf [c])⟩ else none
  | _ => k (ret v)
 | _ => k (ret v)
def arrayK {R : Type} (ty : Nat) (x : C) (k : Eff → Option R) : Option R := match P.underlying ty with
 | some (.array (len + 1) e) => match sizeT P e, x with
  | some n, .sl τ xs _ _ => bif Nat.beq (ncell τ) n then (if Nat.ble (len + 1) (List.length xs) = true then k (ret (one (.er (pairN τ len) (getN τ len xs 0) 0))) else none) else none
  | _, _ => none
 | _ => none
def sliceO {R : Type} (μ : Loc → Option Obj) (t ty : Nat) (x : C) (lo : Option Operand) (hi : Option C) (mx : Option Operand) (k : Eff → Option R) : Option R :=
 match P.underlying ty, lo, hi, mx with
 | some (.slice e), none, some (.int _ h), none => match sizeT P e, x with
  | some _, .nils => if decide (h = 0) = true then k (ret (one .nils)) else none
  | some n, .slo i => match μ (.own i) with
   | some (.sl τ xs false) => if (decide (0 ≤ h) && decide (h ≤ (xs.length : Int))) = true then
     bif Nat.beq (ncell τ) n && noneM μ (.own (appN t (.slo i))) then k ⟨one (.slo (appN t (.slo i))), [(.own i, .dead), (.own (appN t (.slo i)), .sl τ (xs.take h.toNat) false)], [.own i]⟩ else none
    else none
   | _ => none
  | _, _ => none
 | _, _, _, _ => none
def tabK {R : Type} (ty : Nat) (kk : IntKind) (l : List Int) (i : Int) (k : Eff → Option R) : Option R := match P.underlying ty with
 | some (.array len e) => match sizeT P e with
  | some n => bif Nat.beq n 1 && Nat.beq l.length len then (if (decide (0 ≤ i) && decide (i < (len : Int))) = true then k (ret (one (.er (.int kk) (List.getD l i.toNat (0 : Int)) 0))) else none) else none
  | none => none
 | _ => none
def pickN {R : Type} (i : Nat) (k : Nat → Option R) : Nat → Nat → Option R
 | 0, _ => none
 | f + 1, j => if Nat.beq i j = true then k j else pickN i k f (j + 1)
def opK {R : Type} (calls : Nat → Option CallS) (ρ : Operand → AV) (μ : Loc → Option Obj) (o : Oper) (k : Eff → Option R) : Option R :=
 let t := o.dst.getD 0
 match o.op with
 | .move x => k (ret (ρ x))
 | .assign x => bif nzO H t x then nzK μ (ρ x) k else k (ret (ρ x))
 | .pick c a b => match asC (ρ c) with
  | .bool v => match asC (ρ a), asC (ρ b) with
   | .bool x, .bool y => k (ret (one (.bool (bif v then x else y))))
   | _, _ => if v = true then k (ret (ρ a)) else k (ret (ρ b))
  | _ => none
 | .alloc e => match zeroA P e with
  | some z => bif noneM μ (.box t) then k ⟨one (.ptr (.box t) 0 (nA z)), [(.box t, .bx z)], []⟩ else none
  | none => none
 | .box e x => match asA1 (ρ x) with
  | some z => match cells μ z with
   | some l => bif noneM μ (.box t) then k ⟨one (.ptr (.box t) 0 (nA (arrB P e z))), [(.box t, .bx (arrB P e z))], ownLs (ownsOf l)⟩ else none
   | none => none
  | none => none
 | .build ty parts => match zeroA P ty, placesOf P ty, partsC ρ μ parts.toList with
  | some z, some pl, some ps => match cells μ z with
   | some l => match fillC pl l ps with
    | some l' => match z with
     | .arr .. => match atomsC l' with | some v => k ⟨.a v, [], ownLs (ownsOf (ps.map (·.2)).flatten)⟩ | none => none
     | .agg _ => k ⟨.a (.agg l'), [], ownLs (ownsOf (ps.map (·.2)).flatten)⟩
     | .one _ => none
     | .lp .. => none
     | .mp .. => none
    | none => none
   | none => none
  | _, _, _ => none
 | .buildSlice ty len parts => match P.underlying ty with
  | some (.slice e) => match H.ty e, sizeT P e, zeroA P e, partsC ρ μ parts.toList with
   | some τ, some n, some z, some ps => match cells μ z with
    | some l => match fillC (fun i => some (i * n, n)) (List.replicate len l).flatten (ps.map fun p => (p.1, p.2.map (resolve μ))) with
     | some l' => match dcRow τ len l' with
      | some xs => bif Nat.beq (ncell τ) n && noneM μ (.own t) && Nat.ble (len * n) (2 ^ 24) && Nat.beq l.length n then
        k ⟨one (.slo t), freeze μ (ownsOf (ps.map (·.2)).flatten) ++ [(.own t, .sl τ xs false)], ownLs (ownsOf (ps.map (·.2)).flatten)⟩ else none
      | none => none
     | none => none
    | none => none
   | _, _, _, _ => none
  | _ => none
 | .load ty a => match sizeT P ty, aggT P ty with
  | some n, some g => match asC (ρ a) with
   | .ptr l off room => bif Nat.ble n room && Nat.ble 1 n then match μ l with
     | some (.bx v) => match takeCells g n off v with | some x => k ⟨.a x, [], [l]⟩ | none => none
     | _ => none
    else none
   | .er τ x off => match takeCells g n off (.agg (cs τ x)) with | some v => k (ret (.a v)) | none => none
   | .pel i j off => match μ (.own i) with
    | some (.sl τ xs _) => match takeCells g n off (.agg (cs τ (xs.getD j (dflt τ)))) with | some v => k ⟨.a v, [], [.own i]⟩ | none => none
    | _ => none
   | _ => none
  | _, _ => none
 | .store ty a x => match sizeT P ty, asA1 (ρ x) with
  | some n, some v => match asC (ρ a) with
   | .ptr l off room => bif Nat.ble n room then match μ l with
     | some (.bx old) => match v, old with
      | .arr τ N xs, .arr τ' N' _ => bif decide (τ = τ') && Nat.beq N N' && Nat.beq off 0 && Nat.beq n N then k ⟨one .und, [(l, .bx (.arr τ N xs))], [l]⟩ else none
      | _, _ => match cells μ v with
       | some new => bif Nat.beq new.length n then match putCells off new old with
         | some w => k ⟨one .und, [(l, .bx w)], l :: ownLs (ownsOf new)⟩
         | none => none
        else none
       | none => none
     | _ => none
    else none
   | .pel i j off => match cells μ v, μ (.own i) with
    | some new, some (.sl τ xs false) => bif Nat.beq new.length n && !((ownsOf new).any (Nat.beq i)) then match putCells off (new.map (resolve μ)) (.agg (cs τ (xs.getD j (dflt τ)))) with
      | some (.agg l) => match dcAll τ l with
       | some y => k ⟨one .und, freeze μ (ownsOf new) ++ [(.own i, .sl τ (xs.set j y) false)], .own i :: ownLs (ownsOf new)⟩
       | none => none
      | _ => none
     else none
    | _, _ => none
   | _ => none
  | _, _ => none
 | .nilCheck x => match asC (ρ x) with
  | .ptr .. => k (ret (ρ x))
  | .pel .. => none
  | .er .. => k (ret (ρ x))
  | .fn .. => k (ret (ρ x))
  | .ifc .. => k (ret (ρ x))
  | .ifs .. => k (ret (ρ x))
  | .fnb .. => k (ret (ρ x))
  | _ => none
 | .binOp op ty x y _ => match ρ x, ρ y with
  | .a (.one (.int a n)), .a (.one (.int b m)) => match op with
   | .shl | .shr => if (decide (0 ≤ m)) = true then retO (shiftI op a n m) k else none
   | .quo => if (m != 0) = true then (if a = b then k (ret (one (.int a (a.wrap (n.tdiv m))))) else none) else none
   | .rem => if (m != 0) = true then (if a = b then k (ret (one (.int a (n.tmod m)))) else none) else none
   | _ => if a = b then retO (binI op a n m) k else none
  | .a (.one (.bool a)), .a (.one (.bool b)) => match P.underlying ty, op with
   | some .bool, .eql => k (ret (one (.bool (a == b)))) | some .bool, .neq => k (ret (one (.bool (!(a == b))))) | _, _ => none
  | .a (.one c), .a (.one .nils) => match P.underlying ty, op, isNil c with
   | some (.slice _), .eql, some b => k (ret (one (.bool b))) | some (.slice _), .neq, some b => k (ret (one (.bool (!b)))) | _, _, _ => none
  | .a (.arr (.int k1) n1 xs), .a (.arr (.int k2) n2 ys) => match H.eqa ty with
   | some n => bif Nat.beq n n1 && Nat.beq n n2 then (if k1 = k2 then (match op with | .eql => k (ret (one (.bool (xs == ys)))) | .neq => k (ret (one (.bool (!(xs == ys))))) | _ => none) else none) else none
   | none => none
  | .a (.agg l), .a (.agg l') => match H.eqn ty, eqCs l l' with
   | some ks, some b => bif okKs ks l then (match op with | .eql => k (ret (one (.bool b))) | .neq => k (ret (one (.bool (!b)))) | _ => none) else none
   | _, _ => none
  | _, _ => none
 | .unOp op _ x => match op, asC (ρ x) with
  | .not, .bool b => k (ret (one (.bool (!b)))) | .neg, .int a n => k (ret (one (.int a (a.wrap (0 - n))))) | _, _ => none
 | .convert src dst x => match P.underlying src, P.underlying dst, asC (ρ x) with
  | some _, some (.int a), .int _ n => k (ret (one (.int a (a.wrap n)))) | _, _, _ => none
 | .makeInterface ty x => match H.ty ty, ρ x, P.underlying ty with
  | some _, _, some (.interface _) => none
  | some τ, .a v, some _ => match cells μ v, flagA v with
   | some l, some fl => match dcAll τ (l.map (resolve μ)) with
    | some y => k ⟨one (.ifc ty τ fl y), freeze μ (ownsOf l), ownLs (ownsOf l)⟩
    | none => none
   | _, _ => none
  | _, _, _ => none
 | .makeFunc (.func f) first caps => bif first.isEmpty && Nat.blt f yB then
   let l := caps.toList.map fun x => capLoc (asC (ρ x))
   bif l.all (·.isSome) then k (ret (one (.fn f (l.filterMap id)))) else none
  else bif caps.isEmpty && Nat.blt f yB then match first.toList, (P.funcs[f]?).bind (fun fn => fn.params[0]?) with
   | [x], some pt => match H.ty pt, ρ x with
    | some τ, .a v => match cells μ v, flagA v with
     | some l, some fl => match dcAll τ (l.map (resolve μ)) with
      | some y => k ⟨one (.fnb f τ fl y), freeze μ (ownsOf l), ownLs (ownsOf l)⟩
      | none => none
     | _, _ => none
    | _, _ => none
   | _, _ => none
  else none
 | .makeSlice ty ln cp => match P.underlying ty with
  | some (.slice e) => match H.ty e, sizeT P e, zeroA P e, asC (ρ ln), asC (ρ cp) with
   | some τ, some n, some z, .int _ l, .int _ c => match cells μ z with
    | some zl => match dcAll τ zl with
     | some d => bif Nat.beq (ncell τ) n && noneM μ (.own t) && Nat.ble (bytesT P e) 4096 && Nat.beq zl.length n then
       (if (decide (0 ≤ l) && decide (l ≤ c) && decide (c ≤ (boundLen : Int))) = true then k ⟨one (.slo t), [(.own t, .sl τ (List.replicate l.toNat d) false)], []⟩ else none)
      else none
     | none => none
    | none => none
   | _, _, _, _, _ => none
  | _ => none
 | .makeMap ty none => match mapT P H ty with
  | some (κ, ka, τ, va, _) => bif noneM μ (.box t) then k ⟨one (.mpp (.box t)), [(.box t, .bx (.mp κ ka τ va []))], []⟩ else none
  | none => none
 | .lookup ty x i ok => lookK P H ρ μ ty x i ok k
 | .mapUpdate ty m i y => putK P H ρ μ ty m i y k
 | .insert ty m i y => putK P H ρ μ ty m i y k
 | .slice ty x lo hi mx => bif nzO H t x then sliceO P μ t ty (asC (ρ x)) lo (hi.map fun x => asC (ρ x)) mx k else match P.underlying ty with
  | some (.slice e) => match sizeT P e, asC (ρ x) with
   | some n, .sl τ xs nl ex => bif Nat.beq (ncell τ) n then sliceK (.sl τ xs nl ex) xs.length (lo.map fun x => asC (ρ x)) (hi.map fun x => asC (ρ x)) (mx.map fun x => asC (ρ x)) k else none
   | some n, .slo i => match μ (.own i) with
    | some (.sl τ xs _) => bif Nat.beq (ncell τ) n then sliceK (.slo i) xs.length (lo.map fun x => asC (ρ x)) (hi.map fun x => asC (ρ x)) (mx.map fun x => asC (ρ x)) k else none
    | _ => none
   | _, _ => none
  | some (.array len e) => match H.ty e, sizeT P e, asC (ρ x), mx with
   | some τ, some n, .ptr (.box b) 0 _, none => match μ (.box b) with
    | some (.bx (.arr τ0 N zs)) => match cells μ (.arr τ0 N zs) with
     | some l => match dcRow τ len l with
      | some xs => bif Nat.beq (ncell τ) n && Nat.ble 1 len then sliceA (.box b) xs len (lo.map fun x => asC (ρ x)) (hi.map fun x => asC (ρ x)) k else none
      | none => none
     | none => none
    | _ => none
   | _, _, _, _ => none
  | _ => none
 | .sliceToArrayPointer ty x => arrayK P ty (asC (ρ x)) k
 | .fieldAddr ty x f => match fieldOf P ty f with
  | some fd => match sizeT P fd.type with
   | some (sz + 1) => match asC (ρ x) with
    | .ptr l off room => bif Nat.ble (fd.offset + (sz + 1)) room then k (ret (one (.ptr l (off + fd.offset) (sz + 1)))) else none
    | .pel i j off => match μ (.own i) with | some (.sl ..) => k ⟨one (.pel i j (off + fd.offset)), [], [.own i]⟩ | _ => none
    | .er τ y off => k (ret (one (.er τ y (off + fd.offset)))) | _ => none
   | _ => none
  | none => none
 | .field ty x f => match fieldOf P ty f, ρ x with
  | some fd, .a (.agg l) => match sizeT P fd.type, aggT P fd.type with
   | some n, some g => match takeCells g n fd.offset (.agg l) with | some v => k (ret (.a v)) | none => none
   | _, _ => none
  | _, _ => none
 | .indexAddr ty x ix => match asInt (asC (ρ ix)) with
  | none => none
  | some i => match tabX x with
  | some (kk, l) => tabK P ty kk l i k
  | none => match P.underlying ty with
   | some (.array len e) => match sizeT P e, asC (ρ x) with
    | some n, .ptr l off room => bif Nat.ble (len * n) room then (if (decide (0 ≤ i) && decide (i < (len : Int))) = true then (match μ l with
      | some (.bx (.agg _)) => pickN i.toNat (fun j => k (ret (one (.ptr l (off + j * n) n)))) len 0
      | _ => k (ret (one (.ptr l (off + i.toNat * n) n)))) else none) else none
    | some n, .er τ y off => if (decide (0 ≤ i) && decide (i < (len : Int))) = true then pickN i.toNat (fun j => k (ret (one (.er τ y (off + j * n))))) len 0 else none
    | _, _ => none
   | some (.slice e) => match sizeT P e, asC (ρ x) with
    | some n, .sl τ xs _ _ => bif Nat.beq (ncell τ) n then (if (decide (0 ≤ i) && decide (i < (xs.length : Int))) = true then k (ret (one (.er τ (xs.getD i.toNat (dflt τ)) 0))) else none) else none
    | some n, .slo j => match μ (.own j) with
     | some (.sl τ xs _) => bif Nat.beq (ncell τ) n then (if (decide (0 ≤ i) && decide (i < (xs.length : Int))) = true then k ⟨one (.pel j i.toNat 0), [], [.own j]⟩ else none) else none
     | _ => none
    | _, _ => none
   | _ => none
 | .index ty x ix => match asInt (asC (ρ ix)), P.underlying ty, ρ x with
  | some i, some (.array len e), .a v => match arrOf v, sizeT P e, aggT P e with
   | some (.arr τ N xs), some 1, some false => if (decide (0 ≤ i) && decide (i < (len : Int))) = true then (bif Nat.beq N len then match τ, xs with
     | .int a, xs => k (ret (one (.int a (List.getD xs i.toNat (0 : Int)))))
     | .bool, xs => k (ret (one (.bool (List.getD xs i.toNat false))))
     | _, _ => none
    else none) else none
   | some (.arr τ N xs), some n, some true => if (decide (0 ≤ i) && decide (i < (len : Int))) = true then (bif Nat.beq N (len * n) && Nat.ble 1 n then (match takeCells true n (i.toNat * n) (.arr τ N xs) with
     | some v => k (ret (.a v)) | none => none)
    else none) else none
   | _, _, _ => none
  | _, _, _ => none
 | .extract x i => match ρ x with
  | .tup l => match l[i]? with | some v => k (ret (.a v)) | none => none
  | _ => none
 | .call c => match c.callee with
  | .builtin b => match b, c.args.toList.map ρ with
   | .len, [.a (.one x)] => lenK μ ((c.argTypes[0]?).bind P.underlying) x k
   | .cap, [.a (.one .nils)] => match (c.argTypes[0]?).bind P.underlying with | some (.slice _) => k (ret (one (.int .i64 0))) | _ => none
   | .min, [.a (.one (.int a x)), .a (.one (.int b y))] => if a = b then k (ret (one (.int a (if y < x then y else x)))) else none
   | .max, [.a (.one (.int a x)), .a (.one (.int b y))] => if a = b then k (ret (one (.int a (if y > x then y else x)))) else none
   | .append, [.a (.one .nils), .a (.one (.int .i64 l))] => match c.argTypes.toList with
    | [ty, tx] => match P.underlying ty, P.underlying tx with
     | some (.slice e), some (.int _) => zerosK P H e (524288 + t) μ l k
     | _, _ => none
    | _ => none
   | .append, [.a (.one x), .a (.one y)] => match c.argTypes.toList with
    | [ty, tx] => match P.underlying ty, P.underlying tx with
     | some (.slice e), some (.slice _) => appendK P H e (appN t x) μ x y k
     | _, _ => none
    | _ => none
   | _, _ => none
  | .value f => match asC (ρ f) with
   | .fn g caps => match (bif Nat.blt g yB || Nat.beq caps.length 1 then calls g else none) with
    | some cs => callK cs t μ (c.args.toList.map ρ ++ caps.map fun l => one (.ptr l 0 (roomOf μ l))) k
    | none => none
   | .fnb g τ ag y => match (bif Nat.blt g yB then calls g else none) with
    | some cs => callK cs t μ (recvA τ ag y :: c.args.toList.map ρ) k
    | none => none
   | _ => none
  | .invoke x name => match asC (ρ x) with
   | .ifc ty τ ag y => match methodOf P ty name with
    | some g => match calls g with | some cs => callK cs t μ (recvA τ ag y :: c.args.toList.map ρ) k | none => none
    | none => none
   | .ifs i a ia j b jb y => match methodOf P i name, methodOf P j name with
    | some g, some h => match calls g, calls h with
     | some c1, some c2 => match y with
      | .inl z => callK c1 t μ (recvA a ia z :: c.args.toList.map ρ) k
      | .inr z => callK c2 t μ (recvA b jb z :: c.args.toList.map ρ) k
     | _, _ => none
    | _, _ => none
   | _ => none
 | _ => none
def bodyOf (f : Func) : Code := f.body.getD .skip
def codeAt (root : Code) : Nat → Nat → Option Code
 | 0, _ => some root
 | f + 1, p => bif Nat.ble p 1 then some root else match codeAt root f (p / 2) with
  | some (.seq a b) => bif Nat.beq (p % 2) 0 then some a else some b
  | some (.cond _ a b) => bif Nat.beq (p % 2) 0 then some a else some b
  | some (.block _ a) => some a
  | _ => none
def codeAtL : Code → List Nat → Option Code
 | c, [] => some c
 | c, p :: r => match codeAt c p p with
  | some (.loop c') => match r with | [] => some (.loop c') | _ => codeAtL c' r
  | some (.rangeFunc f ps a b) => match r with | [] => some (.rangeFunc f ps a b) | _ => codeAtL (.seq a b) r
  | some c' => match r with | [] => some c' | _ => none
  | none => none
def rngAt (P : Program) (g : Nat) (p : List Nat) : Option (Nat × List Nat × Code × Code) := match P.funcs[g]? with
 | some fn => match codeAtL (bodyOf fn) p with | some (.rangeFunc _ ps a b) => some (fn.ntmps, ps.toList, a, b) | _ => none
 | none => none
def St.app (s : St) (d : Option Nat) (e : Eff) : St := ⟨match d with | some t => (t, e.val) :: s.regs | none => s.regs, setMs s.mem e.wr⟩
abbrev Foot := List (List Loc × List Loc)
def keys : List (Loc × Obj) → List Loc
 | [] => [] | (l, _) :: r => l :: keys r
def opsK {R : Type} (calls : Nat → Option CallS) (n : Nat) (all : List Oper) : List Oper → St → Foot → (St → Foot → Option R) → Option R
 | [], s, a, k => k s a
 | o :: r, s, a, k =>
  bif (match o.dst with | some t => Nat.blt t n | none => true) then
  match o.guard with
  | none => opK P H calls (ev s) (getM s.mem) o fun e => opsK calls n all r (s.app o.dst e) (a ++ [(e.rd, keys e.wr)]) k
  | some (j, want) => match (all[j]?).bind (·.dst) with
   | some d => match asC (getR s.regs d) with
    | .bool b => if b = want then opK P H calls (ev (s.put d (one (.bool want)))) (getM s.mem) o fun e => opsK calls n all r ((s.put d (one (.bool want))).app o.dst e) (a ++ [(e.rd, keys e.wr)]) k
     else opsK calls n all r ((s.put d (one (.bool (!want)))).app o.dst (ret (one .skp))) (a ++ [([], [])]) k
    | .skp => opsK calls n all r (s.app o.dst (ret (one .skp))) (a ++ [([], [])]) k
    | _ => none
   | none => none
  else none
inductive X where
 | nrm | ext (id : Nat) | ret
structure Orc where
 run : (R : Type) → St → (X → St → Option R) → Option R
def meets (a b : List Loc) : Bool := a.any fun x => b.any (Loc.eqb x)
def maskOf (acc : List Nat) : List Edge → Nat → Nat
 | [], m => m
 | e :: r, m => bif Region.binds .any e then maskOf acc r (Nat.lor m (Nat.lor (Nat.shiftLeft 1 e.on) (acc.getD e.on 0))) else maskOf acc r m
def befores : List Oper → List Nat → List Nat
 | [], acc => acc
 | o :: r, acc => befores r (acc ++ [maskOf acc o.after.toList 0])
def apartF : (List Loc × List Loc) → (List Loc × List Loc) → Bool
 | (r, w), (r', w') => !(meets w (r' ++ w')) && !(meets w' r)
def drawOk (ops : Array Oper) (f : Foot) : Bool :=
 let b := befores ops.toList []
 (List.range ops.size).all fun j => (match ops[j]? with | some o => o.after.toList.all fun e => !Region.binds .any e || Nat.blt e.on j | none => true) && (List.range j).all fun i => Nat.testBit (b.getD j 0) i ||
  (apartF (f.getD i ([], [])) (f.getD j ([], [])) && (match ops[i]?, ops[j]? with | some x, some y => x.apart ops y | _, _ => false))
def codeK {R : Type} (calls : Nat → Option CallS) (orc : Nat → Option Orc) (n : Nat) : Code → Nat → St → (X → St → Option R) → Option R
 | c, p, s, k => match orc p with
  | some g => g.run R s k
  | none => match c with
   | .skip => k .nrm s
   | .region _ ops draw => opsK P H calls n ops.toList ops.toList s [] fun s' f => bif !draw || drawOk ops f then k .nrm s' else none
   | .seq a b => codeK calls orc n a (2 * p) s fun x s' => match x with | .nrm => codeK calls orc n b (2 * p + 1) s' k | x => k x s'
   | .cond c a b => match asC (ev s c) with
    | .bool v => if v = true then codeK calls orc n a (2 * p) s k else codeK calls orc n b (2 * p + 1) s k
    | _ => none
   | .block id a => codeK calls orc n a (2 * p) s fun x s' => match x with | .ext i => bif Nat.beq i id then k .nrm s' else k (.ext i) s' | x => k x s'
   | .exit id => k (.ext id) s
   | .ret => k .ret s
   | _ => none
end Go.Al
