/- The abstract evaluator of the reflective layer: values, memory by content, operations, code. No condition. -/
import GoSem.Core.Code
import GoSem.Core.View
import GoSem.Core.Region
namespace Go.RR
open Go
inductive RT where
 | i (k : IntKind) | b | s | fa (n : Nat) (k : IntKind) | ls (k : IntKind)
 deriving DecidableEq
def RT.den : RT → Type
 | .i _ => Int | .b => Bool | .s => ByteArray | .fa _ _ => Nat → Int | .ls _ => List Int
def RT.dflt : (t : RT) → t.den
 | .i _ => (0 : Int) | .b => false | .s => (⟨#[]⟩ : ByteArray) | .fa _ _ => (fun _ => 0 : Nat → Int) | .ls _ => ([] : List Int)
def dens : List RT → Type
 | [] => Unit
 | [t] => t.den
 | t :: u :: r => t.den × dens (u :: r)
def densDflt : (ts : List RT) → dens ts
 | [] => ()
 | [t] => t.dflt
 | t :: u :: r => (t.dflt, densDflt (u :: r))
inductive ET where
 | one (t : RT) | st (ts : List RT)
 deriving DecidableEq
def ET.den : ET → Type
 | .one t => t.den | .st ts => dens ts
def ET.dflt : (e : ET) → e.den
 | .one t => t.dflt | .st ts => densDflt ts
inductive A where
 | v (x : Value)
 | rc (fs : List A)
 | fa (n : Nat) (k : IntKind) (f : Nat → Int)
 | fb (n : Nat) (f : Nat → Bool)
 | fa2 (n m : Nat) (k : IntKind) (f : Nat → Nat → Int)
 | nil (e : ET)
 | sl (b : Nat)
 | ptr (b : Nat) (p : List Nat) (off : Nat)
 | clo (f : Nat) (cs : List A)
 | lst (e : ET) (l : List e.den)
 | ref (a : A)
inductive SV where
 | none
 | un
 | a (x : A)
 | tup (xs : List A)
inductive Con where
 | box (a : A)
 | arr (e : ET) (l : List e.den)
structure Blk where
 own : Bool
 con : Con
def upd (f : Nat → Int) (i : Nat) (x : Int) : Nat → Int := fun j => cond (Nat.beq j i) x (f j)
def updb (f : Nat → Bool) (i : Nat) (x : Bool) : Nat → Bool := fun j => cond (Nat.beq j i) x (f j)
def updR (f : Nat → Nat → Int) (i : Nat) (g : Nat → Int) : Nat → Nat → Int := fun a b => cond (Nat.beq a i) (g b) (f a b)
def upd2 (f : Nat → Nat → Int) (i j : Nat) (x : Int) : Nat → Nat → Int := fun a b => cond (Nat.beq a i && Nat.beq b j) x (f a b)
def bShl (k : IntKind) (x y : Int) : Int := k.wrap (x * 2 ^ min y.toNat k.bits)
def bShr (k : IntKind) (x y : Int) : Int := x.fdiv (2 ^ min y.toNat k.bits)
def bAnd (k : IntKind) (x y : Int) : Int := k.wrap (BitVec.ofInt k.bits x &&& BitVec.ofInt k.bits y).toNat
def bOr (k : IntKind) (x y : Int) : Int := k.wrap (BitVec.ofInt k.bits x ||| BitVec.ofInt k.bits y).toNat
def bXor (k : IntKind) (x y : Int) : Int := k.wrap (BitVec.ofInt k.bits x ^^^ BitVec.ofInt k.bits y).toNat
def bAndNot (k : IntKind) (x y : Int) : Int := k.wrap (BitVec.ofInt k.bits x &&& ~~~BitVec.ofInt k.bits y).toNat
def faEq (n : Nat) (f g : Nat → Int) : Bool := (List.range n).all fun j => f j == g j
def strB (l : List Int) : ByteArray := ⟨(l.map fun n => UInt8.ofNat n.toNat).toArray⟩
def byteAt (s : ByteArray) (i : Nat) : Int := ((s.data.toList.getD i 0).toNat : Int)
def fits (n : Nat) : Bool := Nat.ble n 140737488355328
def RT.toA : (t : RT) → t.den → A
 | .i k, x => .v (.int k x)
 | .b, x => .v (.bool x)
 | .s, x => .v (.string x)
 | .fa n k, f => .fa n k f
 | .ls k, l => .lst (.one (.i k)) l
def fieldsA : (ts : List RT) → dens ts → List A
 | [], _ => []
 | [t], x => [t.toA x]
 | t :: u :: r, x => t.toA x.1 :: fieldsA (u :: r) x.2
def ET.toA : (e : ET) → e.den → A
 | .one t, x => t.toA x
 | .st ts, x => .rc (fieldsA ts x)
def ET.flat : ET → Bool
 | .one (.ls _) => false
 | _ => true
def keq (a b : IntKind) : Bool := match a, b with
 | .i8, .i8 | .i16, .i16 | .i32, .i32 | .i64, .i64 | .u8, .u8 | .u16, .u16 | .u32, .u32 | .u64, .u64 => true
 | _, _ => false
def RT.ofA : (t : RT) → A → Option t.den
 | .i k, .v (.int k' x) => cond (keq k k') (some x) none
 | .b, .v (.bool x) => some x
 | .s, .v (.string x) => some x
 | .fa n k, .fa n' k' f => cond (keq k k' && Nat.beq n n') (some f) none
 | _, _ => none
def one? : List A → Option A
 | [a] => some a
 | _ => none
def head? : List A → Option (A × List A)
 | a :: as => some (a, as)
 | _ => none
def fieldsOf : (ts : List RT) → List A → Option (dens ts)
 | [], as => match as with
  | [] => some ()
  | _ => none
 | [t], as => match one? as with
  | some a => t.ofA a
  | none => none
 | t :: u :: r, as => match head? as with
  | some (a, as') => match t.ofA a, fieldsOf (u :: r) as' with
   | some x, some y => some (x, y)
   | _, _ => none
  | none => none
def ET.ofA : (e : ET) → A → Option e.den
 | .one t, a => t.ofA a
 | .st ts, .rc fs => fieldsOf ts fs
 | _, _ => none
def getA : A → List Nat → Option A
 | a, [] => some a
 | .rc fs, i :: p => match fs[i]? with
  | some a => getA a p
  | none => none
 | .fa _ k f, [i] => some (.v (.int k (f i)))
 | .fb _ f, [i] => some (.v (.bool (f i)))
 | .fa2 _ m k f, [i] => some (.fa m k (f i))
 | .fa2 _ _ k f, [i, j] => some (.v (.int k (f i j)))
 | _, _ => none
mutual
def compat : A → A → Bool
 | .v _, .v _ | .v _, .ptr .. | .v _, .clo .. | .v _, .nil _ | .v _, .sl _ => true
 | .nil _, .nil _ | .nil _, .sl _ | .sl _, .nil _ | .sl _, .sl _ => true
 | .ptr .., .ptr .. | .ptr .., .v _ | .clo .., .clo .. | .clo .., .v _ => true
 | .fa n k _, .fa n' k' _ => keq k k' && Nat.beq n n'
 | .fb n _, .fb n' _ => Nat.beq n n'
 | .fa2 n m k _, .fa2 n' m' k' _ => keq k k' && Nat.beq n n' && Nat.beq m m'
 | .rc fs, .rc gs => compatL fs gs
 | .lst .., .lst .. | .ref _, .ref _ => true
 | _, _ => false
def compatL : List A → List A → Bool
 | [], [] => true
 | a :: as, b :: bs => compat a b && compatL as bs
 | _, _ => false
end
def setA : A → List Nat → A → Option A
 | a, [], x => cond (compat a x) (some x) none
 | .rc fs, i :: p, x => match fs[i]? with
  | some a => match setA a p x with
   | some a' => some (.rc (fs.set i a'))
   | none => none
  | none => none
 | .fa n k f, [i], .v (.int k' x) => cond (keq k k') (some (.fa n k (upd f i x))) none
 | .fb n f, [i], .v (.bool x) => some (.fb n (updb f i x))
 | .fa2 n m k f, [i, j], .v (.int k' x) => cond (keq k k') (some (.fa2 n m k (upd2 f i j x))) none
 | .fa2 n m k f, [i], .fa m' k' g => cond (keq k k' && Nat.beq m m') (some (.fa2 n m k (updR f i g))) none
 | _, _, _ => none
def getC : Con → List Nat → Option A
 | .box a, p => getA a p
 | .arr e l, i :: p => getA (e.toA (l.getD i e.dflt)) p
 | .arr _ _, [] => none
def setC : Con → List Nat → A → Option Con
 | .box a, p, x => match setA a p x with
  | some a' => some (.box a')
  | none => none
 | .arr e l, i :: p, x => match setA (e.toA (l.getD i e.dflt)) p x with
  | some a' => match e.ofA a' with
   | some y => some (.arr e (l.set i y))
   | none => none
  | none => none
 | .arr _ _, [], _ => none
mutual
def okA : A → Bool
 | .lst .. | .ref _ => false
 | .rc fs => okL fs
 | .clo _ cs => okL cs
 | _ => true
def okL : List A → Bool
 | [] => true
 | a :: as => okA a && okL as
end
def isAg : A → Bool
 | .rc _ | .fa .. | .fb .. | .fa2 .. => true
 | _ => false
mutual
def sz : A → Nat
 | .rc fs => szL fs
 | .fa n _ _ => n
 | .fb n _ => n
 | .fa2 n m _ _ => n * m
 | _ => 1
def szL : List A → Nat
 | [] => 0
 | a :: as => sz a + szL as
end
def RT.sz : RT → Nat
 | .fa n _ => n
 | _ => 1
def szs : List RT → Nat
 | [] => 0
 | t :: ts => t.sz + szs ts
def ET.sz : ET → Nat
 | .one t => t.sz
 | .st ts => szs ts
inductive TK where
 | int (k : IntKind) | bool | str | struct (fs : List (Nat × Nat)) | array (n e : Nat) | slice (e : Nat) | ptr (e : Nat) | other
structure TI where
 k : TK
 sz : Nat
 by_ : Nat
abbrev Tab := List (Nat × TI)
def lk.{u} {α : Type u} : List (Nat × α) → Nat → Option α
 | [], _ => none
 | (j, x) :: r, i => cond (Nat.beq i j) (some x) (lk r i)
def rtOf (T : Tab) (t : Nat) : Option RT :=
 match lk T t with
 | some ⟨.int k, _, _⟩ => some (.i k)
 | some ⟨.bool, _, _⟩ => some .b
 | some ⟨.str, _, _⟩ => some .s
 | some ⟨.array n e, _, _⟩ => match lk T e with
  | some ⟨.int k, _, _⟩ => some (.fa n k)
  | _ => none
 | some ⟨.slice e, _, _⟩ => match lk T e with
  | some ⟨.int k, _, _⟩ => some (.ls k)
  | _ => none
 | _ => none
def rtsOf (T : Tab) : List (Nat × Nat) → Option (List RT)
 | [] => some []
 | (_, t) :: r => match rtOf T t, rtsOf T r with
  | some (.ls _), _ => none
  | some a, some as => some (a :: as)
  | _, _ => none
def etOf (T : Tab) (t : Nat) : Option ET :=
 match lk T t with
 | some ⟨.struct fs, _, _⟩ => match rtsOf T fs with
  | some ts => some (.st ts)
  | none => none
 | _ => match rtOf T t with
  | some r => some (.one r)
  | none => none
def elOf (T : Tab) (t : Nat) : Option ET :=
 match lk T t with
 | some ⟨.slice e, _, _⟩ => etOf T e
 | _ => none
mutual
def zeroA (T : Tab) : Nat → Nat → Option A
 | 0, _ => none
 | d + 1, t => match lk T t with
  | some ⟨.int k, _, _⟩ => some (.v (.int k 0))
  | some ⟨.bool, _, _⟩ => some (.v (.bool false))
  | some ⟨.str, _, _⟩ => some (.v (.string ⟨#[]⟩))
  | some ⟨.slice e, _, _⟩ => match etOf T e with
   | some r => some (.nil r)
   | none => none
  | some ⟨.ptr _, _, _⟩ => some (.v (.pointer none))
  | some ⟨.array n e, _, _⟩ => match lk T e with
   | some ⟨.int k, _, _⟩ => some (.fa n k fun _ => 0)
   | some ⟨.bool, _, _⟩ => some (.fb n fun _ => false)
   | some ⟨.array m e', _, _⟩ => match lk T e' with
    | some ⟨.int k, _, _⟩ => some (.fa2 n m k fun _ _ => 0)
    | _ => none
   | _ => none
  | some ⟨.struct fs, _, _⟩ => match zeroL T d fs with
   | some as => some (.rc as)
   | none => none
  | _ => none
def zeroL (T : Tab) : Nat → List (Nat × Nat) → Option (List A)
 | 0, _ => none
 | _ + 1, [] => some []
 | d + 1, (_, t) :: r => match zeroA T d t, zeroL T d r with
  | some a, some as => some (a :: as)
  | _, _ => none
end
def TK.agg : TK → Bool
 | .struct _ | .array .. => true
 | _ => false
def fitT (T : Tab) (t : Nat) (a : A) : Bool := match lk T t with
 | some ti => Nat.beq (sz a) ti.sz && (isAg a == ti.k.agg)
 | none => false
structure AS where
 sl : List (Nat × SV)
 hp : List (Nat × Option Blk)
 n : Nat
structure Eff where
 dst : Option (Nat × SV)
 hp : List (Nat × Option Blk)
 n : Nat
def AS.apply (s : AS) (e : Eff) : AS :=
 ⟨match e.dst with | some d => d :: s.sl | none => s.sl, e.hp ++ s.hp, e.n⟩
def AS.put (s : AS) (d : Option Nat) (x : SV) : AS :=
 match d with
 | some i => ⟨(i, x) :: s.sl, s.hp, s.n⟩
 | none => s
def AS.blk (s : AS) (b : Nat) : Option Blk := match lk s.hp b with
 | some x => x
 | none => none
def AS.slot (s : AS) (i : Nat) : SV := match lk s.sl i with
 | some x => x
 | none => .none
def cA (T : Tab) (t : Nat) : Value → Option A
 | .int k n => some (.v (.int k n))
 | .bool b => some (.v (.bool b))
 | .string s => some (.v (.string s))
 | .slice none 0 0 => match elOf T t with
  | some e => some (.nil e)
  | none => none
 | .pointer none => some (.v (.pointer none))
 | .nilFunc => some (.v .nilFunc)
 | _ => none
def opS (T : Tab) (s : AS) (t : Nat) : Operand → SV
 | .tmp i => s.slot i
 | .const v => match cA T t v with
  | some a => .a a
  | none => .none
 | .func f => .a (.clo f [])
 | .global _ => .none
def opA (T : Tab) (s : AS) (t : Nat) (x : Operand) : Option A := match opS T s t x with
 | .a a => some a
 | _ => none
mutual
def resolve (s : AS) : Nat → A → Option A
 | 0, _ => none
 | d + 1, a => match a with
  | .sl b => match s.blk b with
   | some ⟨_, .arr e l⟩ => some (.lst e l)
   | _ => none
  | .nil e => some (.lst e [])
  | .ptr b p _ => match s.blk b with
   | some ⟨_, c⟩ => match getC c p with
    | some x => match resolve s d x with
     | some y => some (.ref y)
     | none => none
    | none => none
   | none => none
  | .rc fs => match resolveL s d fs with
   | some gs => some (.rc gs)
   | none => none
  | .clo f cs => match resolveL s d cs with
   | some gs => some (.clo f gs)
   | none => none
  | .lst _ _ => none
  | .ref _ => none
  | a => some a
def resolveL (s : AS) : Nat → List A → Option (List A)
 | _, [] => some []
 | 0, _ :: _ => none
 | d + 1, a :: as => match resolve s d a, resolveL s d as with
  | some x, some xs => some (x :: xs)
  | _, _ => none
end
inductive Res where
 | unit
 | one (a : A)
 | tup (xs : List A)
structure ACall where
 α : Type
 c : Option α
 res : α → Res
def ACall.fail : ACall := ⟨Unit, none, fun _ => .unit⟩
def inst (n : Nat) : A → A × List (Nat × Option Blk) × Nat
 | .lst e l => (.sl n, [(n, some ⟨true, .arr e l⟩)], n + 1)
 | a => (a, [], n)
def instL (n : Nat) : List A → List A × List (Nat × Option Blk) × Nat
 | [] => ([], [], n)
 | a :: as => match inst n a with
  | (x, h, m) => match instL m as with
   | (xs, h', m') => (x :: xs, h ++ h', m')
def instR (n : Nat) : Res → SV × List (Nat × Option Blk) × Nat
 | .unit => (.tup [], [], n)
 | .one a => match inst n a with
  | (x, h, m) => (.a x, h, m)
 | .tup xs => match instL n xs with
  | (ys, h, m) => (.tup ys, h, m)
def numS (i : Nat) : List A → List (Nat × SV)
 | [] => []
 | a :: as => (i, .a a) :: numS (i + 1) as
def memN (i : Nat) : List Nat → Bool
 | [] => false
 | j :: r => cond (Nat.beq i j) true (memN i r)
def idx : List Nat → Nat → Option Nat
 | [], _ => none
 | j :: r, b => cond (Nat.beq b j) (some 0) (match idx r b with | some i => some (i + 1) | none => none)
def nodupN : List Nat → Bool
 | [] => true
 | j :: r => cond (memN j r) false (nodupN r)
mutual
def blocksA : A → List Nat
 | .sl b => [b]
 | .ptr b _ _ => [b]
 | .rc fs => blocksL fs
 | .clo _ cs => blocksL cs
 | _ => []
def blocksL : List A → List Nat
 | [] => []
 | a :: as => blocksA a ++ blocksL as
end
def reach (s : AS) : Nat → List Nat → List Nat → List Nat
 | 0, _, acc => acc
 | _ + 1, [], acc => acc
 | f + 1, b :: todo, acc => cond (memN b acc) (reach s f todo acc) (match s.blk b with
  | some ⟨_, .box a⟩ => reach s f (blocksA a ++ todo) (acc ++ [b])
  | _ => reach s f todo (acc ++ [b]))
def rootsS (s : AS) : List Nat → List Nat
 | [] => []
 | i :: r => (match s.slot i with
  | .a x => blocksA x
  | .tup xs => blocksL xs
  | _ => []) ++ rootsS s r
mutual
def renA (bs : List Nat) : A → Option A
 | .sl b => match idx bs b with
  | some i => some (.sl i)
  | none => none
 | .ptr b p off => match idx bs b with
  | some i => some (.ptr i p off)
  | none => none
 | .rc fs => match renL bs fs with
  | some gs => some (.rc gs)
  | none => none
 | .clo f cs => match renL bs cs with
  | some gs => some (.clo f gs)
  | none => none
 | .v x => some (.v x)
 | .fa n k f => some (.fa n k f)
 | .fb n f => some (.fb n f)
 | .fa2 n m k f => some (.fa2 n m k f)
 | .nil e => some (.nil e)
 | .lst .. | .ref _ => none
def renL (bs : List Nat) : List A → Option (List A)
 | [] => some []
 | a :: as => match renA bs a, renL bs as with
  | some x, some xs => some (x :: xs)
  | _, _ => none
end
def renS (bs : List Nat) : SV → Option SV
 | .a x => match renA bs x with
  | some y => some (.a y)
  | none => none
 | .tup xs => match renL bs xs with
  | some ys => some (.tup ys)
  | none => none
 | .un => some .un
 | .none => none
def renB (s : AS) (bs : List Nat) (b : Nat) : Option (Option Blk) := match lk s.hp b with
 | some (some ⟨own, .box a⟩) => match renA bs a with
  | some x => some (some ⟨own, .box x⟩)
  | none => none
 | some (some ⟨own, .arr e l⟩) => some (some ⟨own, .arr e l⟩)
 | some none => some none
 | none => none
def slotsC (s : AS) (bs : List Nat) : List Nat → Option (List (Nat × SV))
 | [] => some []
 | i :: r => match renS bs (s.slot i), slotsC s bs r with
  | some x, some xs => some ((i, x) :: xs)
  | _, _ => none
def blksC (s : AS) (bs : List Nat) (n : Nat) : List Nat → Option (List (Nat × Option Blk))
 | [] => some []
 | b :: r => match renB s bs b, blksC s bs (n + 1) r with
  | some x, some xs => some ((n, x) :: xs)
  | _, _ => none
def canonB (s : AS) (slots bs : List Nat) : Option AS := match slotsC s bs slots, blksC s bs 0 bs with
 | some sl, some hp => cond (nodupN bs) (some ⟨sl, hp, bs.length⟩) none
 | _, _ => none
def canon (slots : List Nat) (s : AS) : Option AS := canonB s slots (reach s 300 (rootsS s slots) [])
mutual
def mapA (f : Nat → Nat) : A → A
 | .sl b => .sl (f b)
 | .ptr b p off => .ptr (f b) p off
 | .rc fs => .rc (mapL f fs)
 | .clo g cs => .clo g (mapL f cs)
 | .v x => .v x
 | .fa n k g => .fa n k g
 | .fb n g => .fb n g
 | .fa2 n m k g => .fa2 n m k g
 | .nil e => .nil e
 | .lst e l => .lst e l
 | .ref a => .ref a
def mapL (f : Nat → Nat) : List A → List A
 | [] => []
 | a :: as => mapA f a :: mapL f as
end
def mapB (f : Nat → Nat) : Option Blk → Option Blk
 | some ⟨own, .box a⟩ => some ⟨own, .box (mapA f a)⟩
 | some ⟨own, .arr e l⟩ => some ⟨own, .arr e l⟩
 | none => none
def mapS (f : Nat → Nat) : SV → SV
 | .a x => .a (mapA f x)
 | .tup xs => .tup (mapL f xs)
 | .un => .un
 | .none => .none
def mapH (f : Nat → Nat) : List (Nat × Option Blk) → List (Nat × Option Blk)
 | [] => []
 | (i, x) :: r => (f i, mapB f x) :: mapH f r
def bakN (n : Nat) : List Nat → Nat → Nat
 | [], i => n + i
 | b :: _, 0 => b
 | _ :: r, i + 1 => bakN n r i
structure HOut where
 res : SV
 hp : List (Nat × Option Blk)
 n : Nat
inductive HAns where
 | one (α : Type) (c : Option α) (out : α → HOut)
 | two (α β : Type) (c : Option (α ⊕ β)) (oa : α → HOut) (ob : β → HOut)
def HAns.α : HAns → Type
 | .one α _ _ => α
 | .two α β _ _ _ => α ⊕ β
def HAns.c : (z : HAns) → Option z.α
 | .one _ c _ => c
 | .two _ _ c _ _ => c
def sumOut {α β : Type} (oa : α → HOut) (ob : β → HOut) : α ⊕ β → HOut
 | .inl x => oa x
 | .inr y => ob y
def HAns.out : (z : HAns) → z.α → HOut
 | .one _ _ out => out
 | .two _ _ _ oa ob => sumOut oa ob
def HAns.fail : HAns := .one Unit none fun _ => ⟨.none, [], 0⟩
abbrev HCon := List A → List (Nat × Option Blk) → HAns
def noXi : Nat → Option HCon := fun _ => none
def bind2 {α β R : Type} (m : Option (α ⊕ β)) (f : α → Option R) (g : β → Option R) : Option R := match m with
 | none => none
 | some (.inl x) => f x
 | some (.inr y) => g y
structure UCall (e : ET) where
 α : Type
 c : Option α
 res : α → Option A
 new : α → List e.den
def UCall.fail {e : ET} : UCall e := ⟨Unit, none, fun _ => none, fun _ => []⟩
def svU : Option A → SV
 | some a => .a a
 | none => .tup []
def ansU : Option A → A → List A
 | some a, b => [a, b]
 | none, b => [b]
abbrev UCon := (e : ET) → List e.den → List A → UCall e
def noPsi : Nat → Option UCon := fun _ => none
structure Ctx where
 T : Tab
 Φ : Nat → List A → ACall
 Ψ : Nat → Option UCon
 Ξ : Nat → Option HCon
def Ctx.weak (X : Ctx) : Bool := (X.Ξ 3).isSome
def isV : A → Bool
 | .v _ => true
 | _ => false
def opsA (T : Tab) (s : AS) : List Nat → List Operand → Option (List A)
 | _, [] => some []
 | ts, x :: xs => match opA T s (ts.headD 0) x, opsA T s ts.tail xs with
  | some a, some as => some (a :: as)
  | _, _ => none
variable {R : Type}
def dstE : Option Nat → SV → Option (Nat × SV)
 | some d, x => some (d, x)
 | none, _ => none
def ret (s : AS) (o : Oper) (x : A) (K : Eff → Option R) : Option R :=
 K ⟨dstE o.dst (.a x), [], s.n⟩
def retH (o : Oper) (x : A) (h : List (Nat × Option Blk)) (n : Nat) (K : Eff → Option R) : Option R :=
 K ⟨dstE o.dst (.a x), h, n⟩
def aBin (T : Tab) (t : Nat) (s : AS) (o : Oper) (op : BinOp) (x y : A) (K : Eff → Option R) : Option R :=
 match x, y with
 | .v (.int k a), .v (.int k' b) =>
  match op with
  | .shl => cond (decide (b < 0)) none (ret s o (.v (.int k (bShl k a b))) K)
  | .shr => cond (decide (b < 0)) none (ret s o (.v (.int k (bShr k a b))) K)
  | op => cond (keq k k') (match op with
   | .add => ret s o (.v (.int k (k.wrap (a + b)))) K
   | .sub => ret s o (.v (.int k (k.wrap (a - b)))) K
   | .mul => ret s o (.v (.int k (k.wrap (a * b)))) K
   | .quo => cond (decide (b = 0)) none (ret s o (.v (.int k (k.wrap (a.tdiv b)))) K)
   | .rem => cond (decide (b = 0)) none (ret s o (.v (.int k (a.tmod b))) K)
   | .and => ret s o (.v (.int k (bAnd k a b))) K
   | .or => ret s o (.v (.int k (bOr k a b))) K
   | .xor => ret s o (.v (.int k (bXor k a b))) K
   | .andNot => ret s o (.v (.int k (bAndNot k a b))) K
   | .eql => ret s o (.v (.bool (a == b))) K
   | .neq => ret s o (.v (.bool (a != b))) K
   | .lss => ret s o (.v (.bool (decide (a < b)))) K
   | .leq => ret s o (.v (.bool (decide (a ≤ b)))) K
   | .gtr => ret s o (.v (.bool (decide (a > b)))) K
   | .geq => ret s o (.v (.bool (decide (a ≥ b)))) K
   | _ => none) none
 | .v (.bool a), .v (.bool b) => match lk T t, op with
  | some ⟨.bool, _, _⟩, .eql => ret s o (.v (.bool (a == b))) K
  | some ⟨.bool, _, _⟩, .neq => ret s o (.v (.bool (!(a == b)))) K
  | _, _ => none
 | .v (.string a), .v (.string b) => match op with
  | .eql => ret s o (.v (.bool (a.toList == b.toList))) K
  | .neq => ret s o (.v (.bool !(a.toList == b.toList))) K
  | .add => cond (fits (a.size + b.size)) (ret s o (.v (.string (a ++ b))) K) none
  | _ => none
 | .nil _, .nil _ => match lk T t with
  | some ⟨.slice _, _, _⟩ => match op with
   | .eql => ret s o (.v (.bool true)) K
   | .neq => ret s o (.v (.bool false)) K
   | _ => none
  | _ => none
 | .sl b, .nil _ => match s.blk b, lk T t with
  | some ⟨_, .arr _ l⟩, some ⟨.slice _, _, _⟩ => match op with
   | .eql => cond (Nat.blt 0 l.length) (ret s o (.v (.bool false)) K) none
   | .neq => cond (Nat.blt 0 l.length) (ret s o (.v (.bool true)) K) none
   | _ => none
  | _, _ => none
 | _, _ => none
def inB (i : Int) (n : Nat) : Bool := decide (0 ≤ i) && decide (i < (n : Int))
def fillS (T : Tab) (s : AS) (fs : List (Nat × Nat)) : List (Nat × Operand) → List A → Option (List A)
 | [], as => some as
 | (i, x) :: r, as => match fs[i]?, as[i]? with
  | some (d, u), some b => match lk T u, opA T s u x with
   | some ti, some a => cond (compat b a && Nat.beq (szL (as.take i)) d && Nat.beq ti.sz (sz a)) (fillS T s fs r (as.set i a)) none
   | _, _ => none
  | _, _ => none
def fillN (T : Tab) (s : AS) (u n : Nat) (k : IntKind) : List (Nat × Operand) → (Nat → Int) → Option (Nat → Int)
 | [], f => some f
 | (i, x) :: r, f => match opA T s u x with
  | some (.v (.int k' y)) => cond (keq k k' && Nat.blt i n) (fillN T s u n k r (upd f i y)) none
  | _ => none
def fillB (T : Tab) (s : AS) (u n : Nat) : List (Nat × Operand) → (Nat → Bool) → Option (Nat → Bool)
 | [], f => some f
 | (i, x) :: r, f => match opA T s u x with
  | some (.v (.bool y)) => cond (Nat.blt i n) (fillB T s u n r (updb f i y)) none
  | _ => none
def fillM (T : Tab) (s : AS) (u n m : Nat) (k : IntKind) : List (Nat × Operand) → (Nat → Nat → Int) → Option (Nat → Nat → Int)
 | [], f => some f
 | (i, x) :: r, f => match opA T s u x with
  | some (.fa m' k' g) => cond (keq k k' && Nat.beq m m' && Nat.blt i n) (fillM T s u n m k r (updR f i g)) none
  | _ => none
def rowOf (s : AS) (wk : Bool) (k : IntKind) : A → Option (List Int × List Nat)
 | .nil _ => some ([], [])
 | .sl b => match s.blk b with
  | some ⟨true, .arr (.one (.i k')) l⟩ => cond (keq k k') (some (l, [b])) none
  | some ⟨false, .arr (.one (.i k')) l⟩ => cond (wk && keq k k') (some (l, [])) none
  | _ => none
 | _ => none
def elA (s : AS) (wk : Bool) : (e : ET) → A → Option (e.den × List Nat)
 | .one (.ls k), a => rowOf s wk k a
 | e, a => match e.ofA a with
  | some y => some (y, [])
  | none => none
def froz (s : AS) : List Nat → List (Nat × Option Blk)
 | [] => []
 | b :: r => (b, match s.blk b with
  | some ⟨_, c⟩ => some ⟨false, c⟩
  | none => none) :: froz s r
def fillL (T : Tab) (s : AS) (wk : Bool) (u : Nat) {e : ET} : List (Nat × Operand) → List e.den → List Nat → Option (List e.den × List Nat)
 | [], z, bs => some (z, bs)
 | (i, x) :: r, z, bs => match opA T s u x with
  | some a => match elA s wk e a with
   | some (y, cs) => cond (Nat.blt i z.length) (fillL T s wk u r (z.set i y) (cs ++ bs)) none
   | none => none
  | none => none
def opI (T : Tab) (s : AS) (x : Operand) : Option Int := match opA T s 0 x with
 | some (.v (.int _ i)) => some i
 | _ => none
def bnd (T : Tab) (s : AS) (d : Int) : Option Operand → Option Int
 | none => some d
 | some x => opI T s x
def aPick (X : Ctx) (s : AS) (o : Oper) (c a b : Operand) (K : Eff → Option R) : Option R :=
 match opA X.T s 0 c with
 | some (.v (.bool true)) => match opA X.T s o.type a with
  | some x => ret s o x K
  | none => none
 | some (.v (.bool false)) => match opA X.T s o.type b with
  | some x => ret s o x K
  | none => none
 | _ => none
def aLoad (X : Ctx) (s : AS) (o : Oper) (t : Nat) (x : Operand) (K : Eff → Option R) : Option R :=
 match opA X.T s 0 x with
 | some (.ptr b p _) => match s.blk b with
  | some ⟨_, c⟩ => match getC c p with
   | some (.lst e l) => cond (fitT X.T t (.lst e l)) (retH o (.sl s.n) [(s.n, some ⟨false, .arr e l⟩)] (s.n + 1) K) none
   | some a => cond (okA a && fitT X.T t a) (ret s o a K) none
   | none => none
  | none => none
 | _ => none
def aStore (X : Ctx) (s : AS) (t : Nat) (x y : Operand) (K : Eff → Option R) : Option R :=
 match opA X.T s 0 x, opA X.T s t y with
 | some (.ptr b p _), some a => match s.blk b with
  | some ⟨true, c⟩ => match setC c p a with
   | some c' => cond (fitT X.T t a) (K ⟨none, [(b, some ⟨true, c'⟩)], s.n⟩) none
   | none => none
  | _ => none
 | _, _ => none
def aConv (X : Ctx) (s : AS) (o : Oper) (t u : Nat) (x : Operand) (K : Eff → Option R) : Option R :=
 match lk X.T t, lk X.T u, opA X.T s t x with
 | some ⟨.int _, _, _⟩, some ⟨.int k, _, _⟩, some (.v (.int _ a)) => ret s o (.v (.int k (k.wrap a))) K
 | some ⟨.slice e, _, _⟩, some ⟨.str, _, _⟩, some (.sl b) => match lk X.T e, s.blk b with
  | some ⟨.int .u8, _, _⟩, some ⟨_, .arr (.one (.i .u8)) l⟩ => ret s o (.v (.string (strB l))) K
  | _, _ => none
 | _, _, _ => none
def aFieldAddr (X : Ctx) (s : AS) (o : Oper) (t : Nat) (x : Operand) (i : Nat) (K : Eff → Option R) : Option R :=
 match lk X.T t, opA X.T s 0 x with
 | some ⟨.struct fs, _, _⟩, some (.ptr b p off) => match fs[i]?, s.blk b with
  | some (d, u), some ⟨_, c⟩ => match lk X.T u, getC c p with
   | some ti, some (.rc as) => cond (Nat.blt 0 ti.sz && Nat.blt i as.length && Nat.beq (szL (as.take i)) d) (ret s o (.ptr b (p ++ [i]) (off + d)) K) none
   | _, _ => none
  | _, _ => none
 | _, _ => none
def dimA : A → Option (Nat × Nat)
 | .fa n _ _ => some (n, 1)
 | .fb n _ => some (n, 1)
 | .fa2 n m _ _ => some (n, m)
 | _ => none
def aIndexAddr (X : Ctx) (s : AS) (o : Oper) (t : Nat) (x y : Operand) (K : Eff → Option R) : Option R :=
 match lk X.T t, opA X.T s 0 x, opI X.T s y with
 | some ⟨.array n e, _, _⟩, some (.ptr b p off), some i => match lk X.T e, s.blk b with
  | some ti, some ⟨_, c⟩ => match getC c p with
   | some a => match dimA a with
    | some (n', m) => cond (Nat.beq n n' && Nat.beq ti.sz m && inB i n) (ret s o (.ptr b (p ++ [i.toNat]) (off + i.toNat * ti.sz)) K) none
    | none => none
   | none => none
  | _, _ => none
 | some ⟨.slice e, _, _⟩, some (.sl b), some i => match lk X.T e, s.blk b with
  | some ti, some ⟨_, .arr e' l⟩ => cond (Nat.beq ti.sz e'.sz && inB i l.length) (ret s o (.ptr b [i.toNat] (i.toNat * ti.sz)) K) none
  | _, _ => none
 | _, _, _ => none
def aIndex (X : Ctx) (s : AS) (o : Oper) (t : Nat) (x y : Operand) (K : Eff → Option R) : Option R :=
 match lk X.T t, opA X.T s t x, opI X.T s y with
 | some ⟨.array n e, _, _⟩, some a, some i => match dimA a, getA a [i.toNat], lk X.T e with
  | some (n', m), some z, some ti => cond (Nat.beq n n' && Nat.beq ti.sz m && fitT X.T e z && inB i n) (ret s o z K) none
  | _, _, _ => none
 | some ⟨.str, _, _⟩, some (.v (.string z)), some i => cond (inB i z.size) (ret s o (.v (.int .u8 (byteAt z i.toNat))) K) none
 | _, _, _ => none
def aField (X : Ctx) (s : AS) (o : Oper) (t : Nat) (x : Operand) (i : Nat) (K : Eff → Option R) : Option R :=
 match lk X.T t, opA X.T s t x with
 | some ⟨.struct fs, _, _⟩, some (.rc as) => match fs[i]?, as[i]? with
  | some (d, u), some a => cond (fitT X.T u a && Nat.beq (szL (as.take i)) d) (ret s o a K) none
  | _, _ => none
 | _, _ => none
def aBuild (X : Ctx) (s : AS) (o : Oper) (t : Nat) (ps : List (Nat × Operand)) (K : Eff → Option R) : Option R :=
 match lk X.T t, zeroA X.T 16 t with
 | some ⟨.struct fs, _, _⟩, some (.rc as) => match fillS X.T s fs ps as with
  | some bs => ret s o (.rc bs) K
  | none => none
 | some ⟨.array _ e, _, _⟩, some (.fa n k f) => match lk X.T e, fillN X.T s e n k ps f with
  | some ti, some g => cond (Nat.beq ti.sz 1) (ret s o (.fa n k g) K) none
  | _, _ => none
 | some ⟨.array _ e, _, _⟩, some (.fb n f) => match lk X.T e, fillB X.T s e n ps f with
  | some ti, some g => cond (Nat.beq ti.sz 1) (ret s o (.fb n g) K) none
  | _, _ => none
 | some ⟨.array _ e, _, _⟩, some (.fa2 n m k f) => match lk X.T e, fillM X.T s e n m k ps f with
  | some ti, some g => cond (Nat.beq ti.sz m) (ret s o (.fa2 n m k g) K) none
  | _, _ => none
 | _, _ => none
def aBuildSlice (X : Ctx) (s : AS) (o : Oper) (t m : Nat) (ps : List (Nat × Operand)) (K : Eff → Option R) : Option R :=
 match lk X.T t with
 | some ⟨.slice u, _, _⟩ => match etOf X.T u, lk X.T u, zeroA X.T 16 u with
  | some e, some ti, some z => match fillL X.T s X.weak u (e := e) ps (List.replicate m e.dflt) [] with
   | some (l, bs) => cond (fitT X.T u z && Nat.blt 0 ti.sz && Nat.ble (m * ti.sz) 65536 && nodupN bs) (retH o (.sl s.n) ((s.n, some ⟨true, .arr e l⟩) :: froz s bs) (s.n + 1) K) none
   | none => none
  | _, _, _ => none
 | _ => none
def aMakeSlice (X : Ctx) (s : AS) (o : Oper) (t : Nat) (x y : Operand) (K : Eff → Option R) : Option R :=
 match lk X.T t, opI X.T s x, opI X.T s y with
 | some ⟨.slice u, _, _⟩, some m, some m' => match etOf X.T u, lk X.T u with
  | some e, some ti => match zeroA X.T 16 u with
   | some z => cond (fitT X.T u z && Nat.blt 0 ti.by_ && (decide (0 ≤ m) && decide (m = m') && fits (m.toNat * ti.by_)))
    (retH o (.sl s.n) [(s.n, some ⟨true, .arr e (List.replicate m.toNat e.dflt)⟩)] (s.n + 1) K) none
   | none => none
  | _, _ => none
 | _, _, _ => none
def inS (l h : Int) (n : Nat) : Bool := decide (0 ≤ l) && decide (l ≤ h) && decide (h ≤ (n : Int))
def aSlice (X : Ctx) (s : AS) (o : Oper) (t : Nat) (x : Operand) (lo hi : Option Operand) (K : Eff → Option R) : Option R :=
 match lk X.T t, opA X.T s t x with
 | some ⟨.str, _, _⟩, some (.v (.string z)) =>
  match bnd X.T s 0 lo, bnd X.T s (z.size : Int) hi with
  | some l, some h => cond (inS l h z.size) (ret s o (.v (.string (z.extract l.toNat h.toNat))) K) none
  | _, _ => none
 | some ⟨.slice u, _, _⟩, some (.sl b) => match s.blk b, lk X.T u with
  | some ⟨_, .arr e xs⟩, some ti =>
   match bnd X.T s 0 lo, bnd X.T s (xs.length : Int) hi with
   | some l, some h => cond (Nat.beq ti.sz e.sz && inS l h xs.length)
     (retH o (.sl s.n) [(s.n, some ⟨false, .arr e ((xs.take h.toNat).drop l.toNat)⟩), (b, some ⟨false, .arr e xs⟩)] (s.n + 1) K) none
   | _, _ => none
  | _, _ => none
 | _, _ => none
def aExtract (X : Ctx) (s : AS) (o : Oper) (x : Operand) (i : Nat) (K : Eff → Option R) : Option R :=
 match opS X.T s 0 x with
 | .tup xs => match xs[i]? with
  | some a => ret s o a K
  | none => none
 | _ => none
def aLen (X : Ctx) (s : AS) (o : Oper) (t : Nat) (x : Operand) (K : Eff → Option R) : Option R :=
 match lk X.T t, opA X.T s t x with
 | some ⟨.str, _, _⟩, some (.v (.string z)) => ret s o (.v (.int .i64 (z.size : Int))) K
 | some ⟨.array n _, _, _⟩, some _ => ret s o (.v (.int .i64 (n : Int))) K
 | some ⟨.slice _, _, _⟩, some (.sl b) => match s.blk b with
  | some ⟨_, .arr _ l⟩ => ret s o (.v (.int .i64 (l.length : Int))) K
  | _ => none
 | some ⟨.slice _, _, _⟩, some (.nil _) => ret s o (.v (.int .i64 0)) K
 | _, _ => none
def aMinMax (X : Ctx) (s : AS) (o : Oper) (mx : Bool) (ts : List Nat) (xs : List Operand) (K : Eff → Option R) : Option R :=
 match opsA X.T s ts xs with
 | some [.v (.int k a), .v (.int k' b)] => cond (keq k k') (ret s o (.v (.int k (match mx with | true => max a b | false => min a b))) K) none
 | _ => none
def ontoC (s : AS) : A → Option (Con × List (Nat × Option Blk))
 | .nil e => some (.arr e [], [])
 | .sl b => match s.blk b with
  | some ⟨true, c⟩ => some (c, [(b, none)])
  | _ => none
 | _ => none
def fromC (s : AS) (e : ET) : A → Option Con
 | .nil e' => some (.arr e' [])
 | .sl b => match s.blk b with
  | some ⟨own, c⟩ => cond (own || e.flat) (some c) none
  | _ => none
 | _ => none
def Con.as (e : ET) : Con → Option (List e.den)
 | .arr e' l => if h : e' = e then some (h ▸ l) else none
 | _ => none
def aAppend (X : Ctx) (s : AS) (o : Oper) (t u : Nat) (x y : Operand) (K : Eff → Option R) : Option R :=
 match lk X.T t, opA X.T s t x, opA X.T s u y with
 | some ⟨.slice e0, _, _⟩, some a, some a' => match etOf X.T e0, lk X.T e0, zeroA X.T 16 e0, ontoC s a with
  | some e, some ti, some z, some (c0, dead) => match fromC s e a' with
   | some c1 => match c0.as e, c1.as e with
    | some l0, some l1 => cond (Nat.beq t u && fitT X.T e0 z && Nat.blt 0 ti.by_ && Nat.blt 0 ti.sz && fits ((l0.length + l1.length) * ti.by_))
     (retH o (.sl s.n) ((s.n, some ⟨true, .arr e (l0 ++ l1)⟩) :: dead) (s.n + 1) K) none
    | _, _ => none
   | none => none
  | _, _, _, _ => none
 | _, _, _ => none
def aCallN (X : Ctx) (s : AS) (o : Oper) (g : Nat) (as cs : List A) (K : Eff → Option R) : Option R :=
 match resolveL s 16 (as ++ cs) with
 | some rs => match X.Φ g rs with
  | ⟨_, c, res⟩ => match c with
   | none => none
   | some r => match instR s.n (res r) with
    | (sv, h, m) => K ⟨dstE o.dst (sv), h, m⟩
 | none => none
def aCallU (s : AS) (o : Oper) (u : UCon) (as : List A) (K : Eff → Option R) : Option R :=
 match as with
 | .sl b :: rest => match s.blk b with
  | some ⟨true, .arr e l⟩ => cond (e.flat && rest.all isV) (match u e l rest with
   | ⟨_, c, res, new⟩ => match c with
    | none => none
    | some r => K ⟨dstE o.dst (svU (res r)), [(b, some ⟨true, .arr e (new r)⟩)], s.n⟩) none
  | _ => none
 | _ => none
def putH (s : AS) (o : Oper) (bs : List Nat) (K : Eff → Option R) : HOut → Option R
 | ⟨res, hp', n⟩ => cond (hp'.all fun p => Nat.blt p.1 bs.length || Nat.blt p.1 n) (K ⟨dstE o.dst (mapS (bakN s.n bs) res), mapH (bakN s.n bs) hp', s.n + (n - bs.length)⟩) none
def ansH (s : AS) (o : Oper) (bs : List Nat) (K : Eff → Option R) : HAns → Option R
 | .one _ c out => match c with
  | none => none
  | some r => putH s o bs K (out r)
 | .two _ _ c oa ob => match c with
  | none => none
  | some (.inl x) => putH s o bs K (oa x)
  | some (.inr y) => putH s o bs K (ob y)
def aCallH (s : AS) (o : Oper) (γ : HCon) (as : List A) (K : Eff → Option R) : Option R :=
 match reach s 300 (blocksL as) [] with
 | bs => match renL bs as, blksC s bs 0 bs, nodupN bs with
  | some xs, some hp, true => ansH s o bs K (γ xs hp)
  | _, _, _ => none
def aCall (X : Ctx) (s : AS) (o : Oper) (f : Operand) (ts : List Nat) (xs : List Operand) (K : Eff → Option R) : Option R :=
 match opA X.T s 0 f, opsA X.T s ts xs with
 | some (.clo g cs), some as => match X.Ξ g with
  | some γ => match cs with
   | [] => aCallH s o γ as K
   | _ :: _ => none
  | none => match X.Ψ g with
   | some u => match cs with
    | [] => aCallU s o u as K
    | _ :: _ => none
   | none => aCallN X s o g as cs K
 | _, _ => none
def eqF (T : Tab) (E : Nat → A → A → Option Bool) (as bs : List A) : List (Nat × Nat) → Nat → Option Bool
 | [], _ => some true
 | (d, u) :: r, i => match as[i]?, bs[i]? with
  | some x, some y => cond ((fitT T u x && fitT T u y) && (Nat.beq (szL (as.take i)) d && Nat.beq (szL (bs.take i)) d)) (match E u x y with
   | some p => match eqF T E as bs r (i + 1) with
    | some q => some (p && q)
    | none => none
   | none => none) none
  | _, _ => none
def eqT (T : Tab) : Nat → Nat → A → A → Option Bool
 | 0, _, _, _ => none
 | d + 1, t, x, y => match lk T t with
  | some ⟨.int _, _, _⟩ => match x, y with
   | .v (.int k a), .v (.int k' b) => cond (keq k k') (some (a == b)) none
   | _, _ => none
  | some ⟨.bool, _, _⟩ => match x, y with
   | .v (.bool a), .v (.bool b) => some (a == b)
   | _, _ => none
  | some ⟨.str, _, _⟩ => match x, y with
   | .v (.string a), .v (.string b) => some (a.toList == b.toList)
   | _, _ => none
  | some ⟨.struct fs, _, _⟩ => match x, y with
   | .rc as, .rc bs => eqF T (eqT T d) as bs fs 0
   | _, _ => none
  | some ⟨.array n e, _, _⟩ => match x, y, lk T e with
   | .fa n1 k f, .fa n2 k' g, some ⟨.int _, s, _⟩ => cond ((Nat.beq n n1 && Nat.beq n n2) && (keq k k' && (Nat.beq s 1 && Nat.blt 0 d))) (some (faEq n f g)) none
   | _, _, _ => none
  | _ => none
def aEq (T : Tab) (t : Nat) (s : AS) (o : Oper) (op : BinOp) (x y : A) (K : Eff → Option R) : Option R :=
 match eqT T 8 t x y with
 | some p => match op with
  | .eql => ret s o (.v (.bool p)) K
  | .neq => ret s o (.v (.bool (!p))) K
  | _ => none
 | none => none
def aop (X : Ctx) (s : AS) (o : Oper) (K : Eff → Option R) : Option R :=
 match o.op with
 | .move x | .assign x => match opS X.T s o.type x with
  | .none => none
  | .un => none
  | sv => K ⟨dstE o.dst (sv), [], s.n⟩
 | .pick c a b => aPick X s o c a b K
 | .alloc t => match zeroA X.T 16 t with
  | some z => retH o (.ptr s.n [] 0) [(s.n, some ⟨true, .box z⟩)] (s.n + 1) K
  | none => none
 | .box t x => match opA X.T s t x with
  | some z => retH o (.ptr s.n [] 0) [(s.n, some ⟨true, .box z⟩)] (s.n + 1) K
  | none => none
 | .load t x => aLoad X s o t x K
 | .store t x y => match o.dst with
  | none => aStore X s t x y K
  | some _ => none
 | .nilCheck x => match opA X.T s 0 x with
  | some (.ptr b p off) => match s.blk b with
   | some _ => ret s o (.ptr b p off) K
   | none => none
  | _ => none
 | .binOp op t x y u => match opA X.T s t x, opA X.T s u y with
  | some a, some b => cond (isAg a && isAg b) (aEq X.T t s o op a b K) (aBin X.T t s o op a b K)
  | _, _ => none
 | .unOp .not _ x => match opA X.T s 0 x with
  | some (.v (.bool b)) => ret s o (.v (.bool !b)) K
  | _ => none
 | .unOp .neg t x => match opA X.T s t x with
  | some (.v (.int k a)) => ret s o (.v (.int k (k.wrap (0 - a)))) K
  | _ => none
 | .convert t u x => aConv X s o t u x K
 | .makeFunc (.func f) first cs => match first.toList, opsA X.T s [] cs.toList with
  | [], some xs => cond (xs.all fun x => !isAg x) (ret s o (.clo f xs) K) none
  | _, _ => none
 | .fieldAddr t x i => aFieldAddr X s o t x i K
 | .indexAddr t x y => aIndexAddr X s o t x y K
 | .index t x y => aIndex X s o t x y K
 | .field t x i => aField X s o t x i K
 | .build t ps => aBuild X s o t ps.toList K
 | .buildSlice t m ps => aBuildSlice X s o t m ps.toList K
 | .makeSlice t x y => aMakeSlice X s o t x y K
 | .slice t x lo hi none => aSlice X s o t x lo hi K
 | .extract x i => aExtract X s o x i K
 | .call ⟨.builtin .len, xs, ts⟩ => match xs.toList, ts.toList with
  | [x], [t] => aLen X s o t x K
  | _, _ => none
 | .call ⟨.builtin .max, xs, ts⟩ => aMinMax X s o true ts.toList xs.toList K
 | .call ⟨.builtin .min, xs, ts⟩ => aMinMax X s o false ts.toList xs.toList K
 | .call ⟨.builtin .append, xs, ts⟩ => match xs.toList, ts.toList with
  | [x, y], [t, u] => aAppend X s o t u x y K
  | _, _ => none
 | .call ⟨.value f, xs, ts⟩ => aCall X s o f ts.toList xs.toList K
 | _ => none
def dstOf (ops : List Oper) (j : Nat) : Option Nat := match ops[j]? with
 | some o => o.dst
 | none => none
def isGuard (ops : List Oper) (j : Nat) : Bool := ops.any fun o => match o.guard with
 | some (i, _) => Nat.beq i j
 | none => false
def isPickCond (ops : List Oper) (d : Option Nat) : Bool := match d with
 | none => false
 | some d => ops.any fun o => match o.op with
  | .pick (.tmp t) _ _ => Nat.beq t d
  | _ => false
def splitB (spl : Bool) (s : AS) (d : Option Nat) (K : AS → Option R) : Option R :=
 match spl, d with
 | true, some i => match s.slot i with
  | .a (.v (.bool b)) => match b with
   | true => K (s.put d (.a (.v (.bool true))))
   | false => K (s.put d (.a (.v (.bool false))))
  | _ => K s
 | _, _ => K s
def wantS (s : AS) (d : Option Nat) (want : Bool) : Option Bool := match d with
 | none => none
 | some i => match s.slot i with
  | .a (.v (.bool b)) => some (b == want)
  | .un => some false
  | _ => none
def aops (X : Ctx) (ops : List Oper) (K : AS → Option R) : List Oper → Nat → AS → Option R
 | [], _, s => K s
 | o :: rest, j, s =>
  match (match o.guard with | none => some true | some (g, w) => wantS s (dstOf ops g) w) with
  | some true => aop X s o fun e => splitB (isGuard ops j || isPickCond ops o.dst) (s.apply e) o.dst (aops X ops K rest (j + 1))
  | some false => aops X ops K rest (j + 1) (s.put o.dst .un)
  | none => none
def dirs (o : Oper) : List Nat := (o.after.toList.filter fun e => Region.binds .any e).map (·.on)
def mem? (i : Nat) : List Nat → Bool
 | [] => false
 | j :: r => cond (Nat.beq i j) true (mem? i r)
def addN (i : Nat) (l : List Nat) : List Nat := cond (mem? i l) l (i :: l)
def unionN : List Nat → List Nat → List Nat
 | [], l => l
 | i :: r, l => unionN r (addN i l)
def getN (D : List (List Nat)) (i : Nat) : List Nat := match D[i]? with
 | some l => l
 | none => []
def closN : List Oper → List (List Nat) → List (List Nat)
 | [], D => D
 | o :: r, D => closN r (D ++ [(dirs o).foldl (fun l i => unionN (i :: getN D i) l) []])
def prdOk (D : List (List Nat)) (o : Oper) (j : Nat) : Bool := (dirs o).all (fun i => Nat.blt i j) && (getN D j).all fun i => mem? i (dirs o) || (dirs o).any fun e => mem? i (getN D e)
def blind : Op → Bool
 | .move _ | .assign _ | .pick .. | .binOp .. | .unOp .. | .extract .. => true
 | _ => false
def stL (L : Nat → Bool) (s : AS) : List (Nat × Eff) → AS
 | [] => s
 | (i, e) :: r => cond (L i) ((stL L s r).apply e) (stL L s r)
def dropS (d : Nat) : List (Nat × SV) → List (Nat × SV)
 | [] => []
 | (i, x) :: r => cond (Nat.beq i d) (dropS d r) ((i, x) :: dropS d r)
def dropSs : List Nat → List (Nat × SV) → List (Nat × SV)
 | [], l => l
 | d :: r, l => dropSs r (dropS d l)
def dropH (b : Nat) : List (Nat × Option Blk) → List (Nat × Option Blk)
 | [] => []
 | (i, x) :: r => cond (Nat.beq i b) (dropH b r) ((i, x) :: dropH b r)
def dropHs : List Nat → List (Nat × Option Blk) → List (Nat × Option Blk)
 | [], l => l
 | b :: r, l => dropHs r (dropH b l)
def farS (D : List (List Nat)) (j : Nat) : List Oper → Nat → List Nat
 | [], _ => []
 | o :: r, i => match (Nat.beq i j || mem? i (getN D j) || mem? j (getN D i)), o.dst with
  | false, some d => d :: farS D j r (i + 1)
  | _, _ => farS D j r (i + 1)
def farH (D : List (List Nat)) (j : Nat) : List (Nat × Eff) → List Nat
 | [] => []
 | (i, e) :: r => match mem? i (getN D j) with
  | true => farH D j r
  | false => e.hp.map (·.1) ++ farH D j r
def seeK : Op → Bool
 | .load .. | .nilCheck _ | .fieldAddr .. | .indexAddr .. | .convert .. => true
 | _ => false
def see (T : Tab) (s : AS) (o : Oper) : List Nat := match (match o.op with
  | .load _ x | .nilCheck x | .fieldAddr _ x _ | .indexAddr _ x _ | .convert _ _ x => opS T s 0 x
  | _ => .none) with
 | .a (.ptr b _ _) => [b]
 | .a (.sl b) => [b]
 | _ => []
def keepHs (bs : List Nat) : List (Nat × Option Blk) → List (Nat × Option Blk)
 | [] => []
 | (i, x) :: r => cond (mem? i bs) ((i, x) :: keepHs bs r) (keepHs bs r)
def viewS (D : List (List Nat)) (ops : List Oper) (s : AS) (effs : List (Nat × Eff)) (j : Nat) : AS :=
 ⟨dropSs (farS D j ops 0) (stL (fun i => mem? i (getN D j)) s effs).sl, [], 0⟩
def viewD (T : Tab) (D : List (List Nat)) (ops : List Oper) (s : AS) (effs : List (Nat × Eff)) (j n : Nat) (o : Oper) : AS :=
 match stL (fun i => mem? i (getN D j)) s effs with
 | ⟨sl, hp, _⟩ => ⟨dropSs (farS D j ops 0) sl, match blind o.op with
  | true => []
  | false => match seeK o.op with
   | true => keepHs (see T (viewS D ops s effs j) o) (dropHs (farH D j effs) hp)
   | false => dropHs (farH D j effs) hp, n⟩
def effN (s : AS) : List (Nat × Eff) → Nat
 | [] => s.n
 | (_, f) :: _ => f.n
def besideD (T : Tab) (D : List (List Nat)) (ops : List Oper) (s : AS) (j n : Nat) (e : Eff) : List (Nat × Eff) → Bool
 | [] => true
 | (i, f) :: r => (mem? i (getN D j) || ((match e.dst, f.dst with
   | some (d, _), some (d', _) => !Nat.beq d d'
   | _, _ => true) && (e.hp.all (fun p => Nat.ble f.n p.1) || match ops[i]? with
    | some o => blind o.op || (seeK o.op && e.hp.all fun p => Nat.ble f.n p.1 || (Nat.blt p.1 (effN s r) && !mem? p.1 (see T (viewS D ops s r i) o)))
    | none => false))) && besideD T D ops s j n e r
def splitE (spl : Bool) (e : Eff) (K : Eff → Option R) : Option R :=
 match spl, e.dst with
 | true, some (d, .a (.v (.bool b))) => match b with
  | true => K ⟨some (d, .a (.v (.bool true))), e.hp, e.n⟩
  | false => K ⟨some (d, .a (.v (.bool false))), e.hp, e.n⟩
 | _, _ => K e
def dstSame (o : Oper) (n : Nat) (e : Eff) : Bool := (match e.dst, o.dst with
 | some (d, _), some d' => Nat.beq d d'
 | none, _ => true
 | _, _ => false) && (cond (blind o.op) (e.hp.isEmpty && Nat.beq e.n n) true && cond (seeK o.op) (e.hp.all fun p => Nat.ble n p.1) true)
def dops (X : Ctx) (D : List (List Nat)) (ops : List Oper) (s : AS) (K : AS → Option R) : List Oper → Nat → Nat → List (Nat × Eff) → Option R
 | [], _, n, effs => match stL (fun _ => true) s effs with
  | ⟨sl, hp, _⟩ => K ⟨sl, hp, n⟩
 | o :: rest, j, n, effs =>
  cond (prdOk D o j) (match (match o.guard with
   | none => some true
   | some (g, w) => wantS (viewD X.T D ops s effs j n o) (dstOf ops g) w) with
  | some true => aop X (viewD X.T D ops s effs j n o) o fun e => splitE (isGuard ops j || isPickCond ops o.dst) e fun e => cond (dstSame o n e && besideD X.T D ops s j n e effs) (dops X D ops s K rest (j + 1) e.n ((j, e) :: effs)) none
  | some false => cond (dstSame o n ⟨dstE o.dst .un, [], n⟩ && besideD X.T D ops s j n ⟨dstE o.dst .un, [], n⟩ effs) (dops X D ops s K rest (j + 1) n ((j, ⟨dstE o.dst .un, [], n⟩) :: effs)) none
  | none => none) none
inductive Ex where
 | n | x (id : Nat) | r
def headId : Code → Nat
 | .region id _ _ => id
 | .seq a _ => headId a
 | .cond _ a _ => headId a
 | .block _ a => headId a
 | .loop a => headId a
 | _ => 0
def ev (X : Ctx) (lp : Nat → AS → Option R) : Code → (Ex → AS → Option R) → AS → Option R
 | .skip, K, s => K .n s
 | .label _, K, s => K .n s
 | .region _ ops draw, K, s => match draw with
  | false => aops X ops.toList (K .n) ops.toList 0 s
  | true => dops X (closN ops.toList []) ops.toList s (K .n) ops.toList 0 s.n []
 | .seq a b, K, s => ev X lp a (fun e s => match e with | .n => ev X lp b K s | e => K e s) s
 | .cond c a b, K, s => match opA X.T s 0 c with
  | some (.v (.bool t)) => match t with
   | true => ev X lp a K s
   | false => ev X lp b K s
  | _ => none
 | .block id a, K, s => ev X lp a (fun e s => match e with
  | .x i => match Nat.beq i id with
   | true => K .n s
   | false => K (.x i) s
  | e => K e s) s
 | .loop a, _, s => lp (headId a) s
 | .exit id, K, s => K (.x id) s
 | .ret, K, s => K .r s
 | _, _, _ => none
def seqK (X : Ctx) (lp : Nat → AS → Option R) (b : Code) (K : Ex → AS → Option R) : Ex → AS → Option R :=
 fun e s => match e with | .n => ev X lp b K s | e => K e s
def blockK (id : Nat) (K : Ex → AS → Option R) : Ex → AS → Option R :=
 fun e s => match e with
  | .x i => match Nat.beq i id with
   | true => K .n s
   | false => K (.x i) s
  | e => K e s
def loopK (lp : Nat → AS → Option R) (id : Nat) (K : Ex → AS → Option R) : Ex → AS → Option R :=
 fun e s => match e with | .n => lp id s | e => K e s
def ctxs (X : Ctx) (lp : Nat → AS → Option R) : Code → (Ex → AS → Option R) → List (Nat × Code × (Ex → AS → Option R))
 | .seq a b, K => ctxs X lp a (seqK X lp b K) ++ ctxs X lp b K
 | .cond _ a b, K => ctxs X lp a K ++ ctxs X lp b K
 | .block id a, K => ctxs X lp a (blockK id K)
 | .loop a, K => (headId a, a, K) :: ctxs X lp a (loopK lp (headId a) K)
 | _, _ => []
def loopIds : Code → List Nat
 | .seq a b => loopIds a ++ loopIds b
 | .cond _ a b => loopIds a ++ loopIds b
 | .block _ a => loopIds a
 | .loop a => headId a :: loopIds a
 | _ => []
def slotsOk (N : Nat) : Code → Bool
 | .region _ ops _ => ops.toList.all fun o => match o.dst with | some d => Nat.blt d N | none => true
 | .seq a b => slotsOk N a && slotsOk N b
 | .cond _ a b => slotsOk N a && slotsOk N b
 | .block _ a => slotsOk N a
 | .loop a => slotsOk N a
 | _ => true
def lpc (cn : Nat → AS → Option AS) (L : Nat → AS → Option R) : Nat → AS → Option R :=
 fun id s => match cn id s with
  | some s' => L id s'
  | none => none
end Go.RR
