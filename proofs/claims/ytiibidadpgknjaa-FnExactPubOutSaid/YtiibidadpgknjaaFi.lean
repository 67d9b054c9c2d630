/- The functional interpreter: values without addresses, blocks by name, the program's own code. -/
import GoSem.Machine.Frame
import GoSem.Claims
namespace Go.Proofs.Ytiibidadpgknjaa.Fi
open Go

/-- A value: what is only read lies inline ('lst'); what is written lies in a named block ('own': a slice over the whole of it; 'sl': a part; 'ptr'). -/
inductive AV where
  | bool (b : Bool)
  | int (k : IntKind) (n : Int)
  | str (s : List UInt8)
  | agg (cs : List AV)
  | tup (vs : List AV)
  | nilS
  | lst (sz : Nat) (l : List AV)
  | own (n ver : Nat)
  | sl (n ver off len : Nat)
  | ptr (n ver idx off : Nat)
  | rptr (cs : List AV) (off : Nat)
  | fn (f : Nat) (cap : List AV)
  | undef

/-- A block: cells an element, the element's type, the elements; 'box': one variable; 'rf': its elements may name blocks; 'fz': it stays as it is; 'ver': how often it has grown. -/
structure Blk where
  sz : Nat
  ty : Nat
  els : List AV
  box : Bool
  rf : Bool
  fz : Bool
  ver : Nat

/-- What is known of a type. 'zero': the cells of the zero value, a nil slice being the empty list of its elements' size. -/
inductive TK where
  | agg (fs : List (Nat × Nat × Bool))
  | slice (esz ebytes ety : Nat)
  | int (k : IntKind)
  | bool
  | str
  | oth

structure TI where
  k : TK
  size : Nat
  zero : List AV

/-- What an operation does with blocks: whether it may change any; those that it may write; (where it changes none) those that it looks into. -/
structure Foot where
  chg : Bool
  wr : List Nat
  lk : List Nat

/-- The todo list. -/
inductive It where
  | code (c : Code)
  | inBlock (id : Nat)
  | inLoop (c : Code)
  | ops (draw : Bool) (all : List Oper) (bef : List (List Nat)) (i : Nat) (rest : List Oper) (log : List Foot)

structure Ctx where
  tab : List (List TI)
  nt : Nat
  nr : Nat
  keep : Nat → Option (List Nat)
  cutr : Nat → Option (List Nat)
  own : Nat → Bool
  wr : Bool
  mode : Nat → Option (List Nat)
  made : Nat → Bool
  eqs : List Nat

def look : List Nat → List AV → Nat → AV
  | k :: ks, v :: vs, j => bif Nat.beq k j then v else look ks vs j
  | _, _, _ => .undef

def put (t : Nat → AV) (i : Nat) (v : AV) : Nat → AV := fun j => bif Nat.beq i j then v else t j

def cells : AV → List AV
  | .agg cs => cs
  | v => [v]

/-- The value itself goes on, not the way to it. -/
def force {β : Type} (v : AV) (K : AV → Option β) : Option β :=
  match v with
  | .bool b => K (.bool b)
  | .int k n => K (.int k n)
  | .str s => K (.str s)
  | .agg cs => K (.agg cs)
  | .tup cs => K (.tup cs)
  | .nilS => K .nilS
  | .lst sz l => K (.lst sz l)
  | .own n ver => K (.own n ver)
  | .sl n ver off len => K (.sl n ver off len)
  | .ptr n ver idx off => K (.ptr n ver idx off)
  | .rptr cs off => K (.rptr cs off)
  | .fn f cap => K (.fn f cap)
  | .undef => K .undef
theorem force_eq {β : Type} (v : AV) (K : AV → Option β) : force v K = K v := by cases v <;> rfl
def forces {β : Type} (l : List AV) (K : List AV → Option β) : Option β :=
  match l with
  | [] => K []
  | v :: r => force v fun v => forces r fun r => K (v :: r)
theorem forces_eq {β : Type} (l : List AV) : ∀ (K : List AV → Option β), forces l K = K l := by
  induction l with
  | nil => intro K; rfl
  | cons v r ih => intro K; simp only [forces, force_eq, ih]
def forceN {β : Type} (n : Nat) (K : Nat → Option β) : Option β :=
  match n with
  | 0 => K 0
  | n + 1 => K (n + 1)
theorem forceN_eq {β : Type} (n : Nat) (K : Nat → Option β) : forceN n K = K n := by cases n <;> rfl
/-- A struct's cells too. -/
def forceV {β : Type} (v : AV) (K : AV → Option β) : Option β :=
  force v fun v => match v with
    | .agg cs => forces cs fun cs => K (.agg cs)
    | .tup cs => forces cs fun cs => K (.tup cs)
    | v => K v
theorem forceV_eq {β : Type} (v : AV) (K : AV → Option β) : forceV v K = K v := by
  unfold forceV
  rw [force_eq]
  cases v <;> simp only [forces_eq]

def asB : AV → Option Bool
  | .bool b => some b
  | _ => none
def asI : AV → Option (IntKind × Int)
  | .int k n => some (k, n)
  | _ => none
def asAgg : AV → Option (List AV)
  | .agg cs => some cs
  | _ => none
def asTup : AV → Option (List AV)
  | .tup cs => some cs
  | _ => none

def hasN : List Nat → Nat → Bool
  | [], _ => false
  | n :: r, m => Nat.beq n m || hasN r m
/-- Numbers compared: it comes to an end at once where one of them is not known. -/
def leI : Int → Int → Bool
  | .ofNat a, .ofNat b => Nat.ble a b
  | .negSucc _, .ofNat _ => true
  | .ofNat _, .negSucc _ => false
  | .negSucc a, .negSucc b => Nat.ble b a
def ltI (a b : Int) : Bool := !leI b a
theorem leI_eq (a b : Int) : leI a b = decide (a ≤ b) := by
  cases a with
  | ofNat a =>
    cases b with
    | ofNat b =>
      show Nat.ble a b = _
      rw [Bool.eq_iff_iff]
      simp only [Nat.ble_eq, decide_eq_true_eq, Int.ofNat_eq_natCast]
      omega
    | negSucc b =>
      symm
      refine decide_eq_false ?_
      rw [Int.negSucc_eq, Int.ofNat_eq_natCast]
      omega
  | negSucc a =>
    cases b with
    | ofNat b =>
      symm
      refine decide_eq_true ?_
      rw [Int.negSucc_eq, Int.ofNat_eq_natCast]
      omega
    | negSucc b =>
      show Nat.ble b a = _
      rw [Bool.eq_iff_iff, Int.negSucc_eq, Int.negSucc_eq]
      simp only [Nat.ble_eq, decide_eq_true_eq]
      omega
theorem leI_iff {a b : Int} : leI a b = true ↔ a ≤ b := by rw [leI_eq]; simp
theorem ltI_eq (a b : Int) : ltI a b = decide (a < b) := by
  unfold ltI
  rw [leI_eq, Bool.eq_iff_iff]
  simp
theorem ltI_iff {a b : Int} : ltI a b = true ↔ a < b := by rw [ltI_eq]; simp
def inR (k : IntKind) (n : Int) : Bool := leI k.min n && leI n k.max
def ofConst : Value → AV
  | .bool b => .bool b
  | .int k n => bif inR k n then .int k n else .undef
  | .string s => bif Nat.ble s.data.toList.length 1000000 then .str s.data.toList else .undef
  | .slice none 0 0 => .nilS
  | _ => .undef

def ev (t : Nat → AV) : Operand → AV
  | .tmp i => t i
  | .const v => ofConst v
  | .func f => .fn f []
  | .global _ => .undef

def nth {α : Type} : List α → Nat → Option α
  | [], _ => none
  | x :: _, 0 => some x
  | _ :: r, n + 1 => nth r n

def nthD (l : List AV) (i : Nat) : AV := (nth l i).getD .undef

def tinfo (X : Ctx) (T : Nat) : Option TI := (nth X.tab (T / 16)).bind fun l => nth l (T % 16)
def tk (X : Ctx) (T : Nat) : TK := match tinfo X T with
  | some i => i.k
  | none => .oth
def tsz (X : Ctx) (T : Nat) : Nat := match tinfo X T with
  | some i => i.size
  | none => 0
def tz (X : Ctx) (T : Nat) : List AV := match tinfo X T with
  | some i => i.zero
  | none => []
def isAgg : TK → Bool
  | .agg _ => true
  | _ => false

/-- A nil slice in a zero value, as it stands in a fresh variable. -/
def fresh : AV → AV
  | .lst _ [] => .nilS
  | v => v
/-- The other way round: what goes to a reader. -/
def canon : AV → AV → AV
  | .nilS, .lst sz _ => .lst sz []
  | .nilS, _ => .lst 0 []
  | v, _ => v
def canons : List AV → List AV → List AV
  | c :: cs, z :: zs => canon c z :: canons cs zs
  | c :: cs, [] => canon c .undef :: canons cs []
  | [], _ => []

def shape (agg : Bool) (cs : List AV) : AV := bif agg then .agg cs else nthD cs 0

def zeroOf (X : Ctx) (T : Nat) : AV := shape (isAgg (tk X T)) ((tz X T).map fresh)
def zeroCanon (X : Ctx) (T : Nat) : AV := shape (isAgg (tk X T)) (tz X T)

def takeN {α : Type} : Nat → List α → List α
  | 0, _ => []
  | _, [] => []
  | n + 1, x :: r => x :: takeN n r
def dropN {α : Type} : Nat → List α → List α
  | 0, l => l
  | _, [] => []
  | n + 1, _ :: r => dropN n r

/-- The cells from a place on. -/
def sub (cs : List AV) (off n : Nat) : List AV := takeN n (dropN off cs)
def splice (cs : List AV) (off : Nat) (xs : List AV) : List AV := takeN off cs ++ xs ++ dropN (off + xs.length) cs

/-- Part of a value. Where it is the whole it is the value itself. -/
def partOf (agg : Bool) (v : AV) (off n : Nat) : AV :=
  bif agg then
    match v with
    | .agg cs => bif Nat.beq off 0 && Nat.beq n cs.length then v else .agg (sub cs off n)
    | _ => .undef
  else nthD (cells v) off

def setPart (v : AV) (off : Nat) (xs : List AV) : AV :=
  match v with
  | .agg cs => bif Nat.beq off 0 && Nat.beq xs.length cs.length then .agg xs else .agg (splice cs off xs)
  | _ => nthD xs 0

def blkAt (h : List Blk) (n ver : Nat) : Option Blk :=
  (nth h n).bind fun b => bif Nat.beq b.ver ver then some b else none

def updAt {α : Type} : List α → Nat → α → List α
  | [], _, _ => []
  | _ :: r, 0, x => x :: r
  | y :: r, n + 1, x => y :: updAt r n x

/-- Does it name a block? -/
def hasRef : AV → Bool
  | .own _ _ => true
  | .sl _ _ _ _ => true
  | .ptr _ _ _ _ => true
  | .fn _ _ => true
  | .rptr _ _ => true
  | .undef => true
  | .tup _ => true
  | .agg _ => true
  | _ => false
def hasRefs : List AV → Bool
  | [] => false
  | c :: cs => hasRef c || hasRefs cs
def valRef (v : AV) : Bool := hasRefs (cells v)

/-- One more than the greatest name in it. -/
def bndC : AV → Nat
  | .own n _ => n + 1
  | .sl n _ _ _ => n + 1
  | .ptr n _ _ _ => n + 1
  | _ => 0
def bndCs : List AV → Nat
  | [] => 0
  | c :: cs => Nat.max (bndC c) (bndCs cs)
def bnd1 : AV → Nat
  | .fn _ cap => bndCs cap
  | c => bndC c
def bnds : List AV → Nat
  | [] => 0
  | c :: cs => Nat.max (bnd1 c) (bnds cs)
def bnd : AV → Nat
  | .agg cs => bnds cs
  | v => bnd1 v
def bndAll : List AV → Nat
  | [] => 0
  | c :: cs => Nat.max (bnd c) (bndAll cs)

/-- All names in a kept block lie below m. -/
def blkBelow (m : Nat) (b : Blk) : Bool := !b.rf || Nat.ble (bndAll b.els) m
def allBelow (m : Nat) : List Blk → Bool
  | [] => true
  | b :: bs => blkBelow m b && allBelow m bs

/-- An integer result: kept as it is where it is in range; a function that wraps round says so. -/
def mkI (X : Ctx) (k : IntKind) (n : Int) : Option AV :=
  bif X.wr then some (.int k (k.wrap n)) else bif inR k n then some (.int k n) else none

def isBool : TK → Bool
  | .bool => true
  | _ => false
def eqCell : AV → AV → Option Bool
  | .bool a, .bool b => some (a == b)
  | .int k a, .int k' b => bif decide (k = k') then some (a == b) else none
  | .str a, .str b => some (a == b)
  | _, _ => none
/-- A cell of the zero value's kind. -/
def like : AV → AV → Bool
  | .int k _, .int k' _ => decide (k = k')
  | .bool _, .bool _ => true
  | .str _, .str _ => true
  | _, _ => false
def likeAll : List AV → List AV → Bool
  | [], [] => true
  | z :: zs, c :: cs => like z c && likeAll zs cs
  | _, _ => false
def eqCells : List AV → List AV → Option Bool
  | [], [] => some true
  | c :: cs, d :: ds => (eqCell c d).bind fun a => (eqCells cs ds).bind fun b => some (a && b)
  | _, _ => none

def intOp (X : Ctx) (op : BinOp) (k : IntKind) (x y : Int) : Option AV :=
  match op with
  | .add => mkI X k (x + y)
  | .sub => mkI X k (x - y)
  | .mul => mkI X k (x * y)
  | .quo => bif y == 0 then none else mkI X k (x.tdiv y)
  | .rem => bif y == 0 then none else some (.int k (x.tmod y))
  | .and => some (.int k (k.wrap (BitVec.ofInt k.bits x &&& BitVec.ofInt k.bits y).toNat))
  | .or => some (.int k (k.wrap (BitVec.ofInt k.bits x ||| BitVec.ofInt k.bits y).toNat))
  | .xor => some (.int k (k.wrap (BitVec.ofInt k.bits x ^^^ BitVec.ofInt k.bits y).toNat))
  | .eql => some (.bool (x == y))
  | .neq => some (.bool (x != y))
  | .lss => some (.bool (ltI x y))
  | .leq => some (.bool (leI x y))
  | .gtr => some (.bool (ltI y x))
  | .geq => some (.bool (leI y x))
  | _ => none

def strOp (op : BinOp) (x y : List UInt8) : Option AV :=
  match op with
  | .add => bif decide (x.length + y.length ≤ 4611686018427387904) then some (.str (x ++ y)) else none
  | .eql => some (.bool (x == y))
  | .neq => some (.bool !(x == y))
  | .lss => some (.bool (Op.bytesLess x y))
  | .leq => some (.bool (Op.bytesLess x y || x == y))
  | .gtr => some (.bool !(Op.bytesLess x y || x == y))
  | .geq => some (.bool !(Op.bytesLess x y))
  | _ => none

def shiftOp (X : Ctx) (op : BinOp) (k : IntKind) (x y : Int) : Option AV :=
  bif ltI y 0 then none else
  match op with
  | .shl => mkI X k (x * 2 ^ (min y.toNat k.bits))
  | .shr => some (.int k (x.fdiv (2 ^ (min y.toNat k.bits))))
  | _ => none

def binE (X : Ctx) (T : Nat) (op : BinOp) (x y : AV) : Option AV :=
  match x, y with
  | .int k a, .int k' b => match op with
    | .shl => shiftOp X .shl k a b
    | .shr => shiftOp X .shr k a b
    | op => bif decide (k = k') then intOp X op k a b else none
  | .str a, .str b => strOp op a b
  | .bool a, .bool b => match op with
    | .eql => bif isBool (tk X T) then some (.bool (a == b)) else none
    | .neq => bif isBool (tk X T) then some (.bool !(a == b)) else none
    | _ => none
  | .agg a, .agg b => match op with
    | .eql => bif hasN X.eqs T && likeAll (tz X T) a && likeAll (tz X T) b then (eqCells a b).bind fun r => some (.bool r) else none
    | .neq => bif hasN X.eqs T && likeAll (tz X T) a && likeAll (tz X T) b then (eqCells a b).bind fun r => some (.bool !r) else none
    | _ => none
  | _, _ => none

def unE (X : Ctx) (op : UnOp) (x : AV) : Option AV :=
  match op, x with
  | .neg, .int k n => mkI X k (0 - n)
  | .not, .bool b => some (.bool !b)
  | _, _ => none

/-- Does every number of the one kind fit the other? -/
def wider : IntKind → IntKind → Bool
  | .u8, .i64 => true
  | .i64, .i64 => true
  | .u8, .u8 => true
  | .i32, .i64 => true
  | .i32, .i32 => true
  | .u8, .i32 => true
  | .u64, .u64 => true
  | .u32, .u64 => true
  | .u8, .u64 => true
  | _, _ => false

def byteV (b : UInt8) : AV := .int .u8 b.toNat
def byteOf : AV → Option UInt8
  | .int .u8 n => some (UInt8.ofNat n.toNat)
  | _ => none
def strOf : List AV → Option (List UInt8)
  | [] => some []
  | v :: vs => (byteOf v).bind fun b => (strOf vs).bind fun r => some (b :: r)

/-- The elements that a slice shows. -/
def shown (h : List Blk) : AV → Option (Nat × List AV × Bool)
  | .lst sz l => some (sz, l, false)
  | .own n ver => (blkAt h n ver).bind fun b => some (b.sz, b.els, b.rf)
  | .sl n ver off len => (blkAt h n ver).bind fun b => some (b.sz, takeN len (dropN off b.els), b.rf)
  | _ => none

def isSlice : TK → Bool
  | .slice _ _ _ => true
  | _ => false
def lenOf (h : List Blk) (k : TK) : AV → Option Nat
  | .lst _ l => bif isSlice k then some l.length else none
  | .nilS => bif isSlice k then some 0 else none
  | .own n ver => bif isSlice k then (blkAt h n ver).bind fun b => some b.els.length else none
  | .sl n ver _ len => bif isSlice k then (blkAt h n ver).bind fun _ => some len else none
  | .str s => match k with
    | .str => some s.length
    | _ => none
  | _ => none

def isU8 : TK → Bool
  | .int .u8 => true
  | _ => false
def isStr : TK → Bool
  | .str => true
  | _ => false
/-- The cells of a slice's element. -/
def eszIs (k : TK) (sz : Nat) : Bool := match k with
  | .slice e _ _ => Nat.beq e sz
  | _ => false

def convE (X : Ctx) (h : List Blk) (S T : Nat) (x : AV) : Option AV :=
  match tk X S, tk X T, x with
  | .int _, .int k, .int k' n => some (.int k (bif wider k' k then n else k.wrap n))
  | .str, .str, .str s => some (.str s)
  | .str, .slice _ _ e, .str s => bif isU8 (tk X e) then some (.lst 1 (s.map byteV)) else none
  | .slice _ _ e, .str, .nilS => bif isU8 (tk X e) then some (.str []) else none
  | .slice sz _ e, .str, x => bif isU8 (tk X e) && Nat.beq sz 1 then (shown h x).bind fun p => bif Nat.beq p.1 1 then (strOf p.2.1).bind fun l => some (.str l) else none else none
  | _, _, _ => none

def between (lo x hi : Int) : Bool := leI lo x && leI x hi
def below (x : Int) (hi : Nat) : Bool := leI 0 x && ltI x (hi : Int)

def bound (d : Int) : Option AV → Option Int
  | none => some d
  | some v => (asI v).bind fun p => some p.2

def cutL {α : Type} (l : List α) (lo hi : Int) : List α := takeN (hi.toNat - lo.toNat) (dropN lo.toNat l)

def sliceE (h : List Blk) (k : TK) (x : AV) (lo hi : Option AV) : Option AV :=
  match x with
  | .str s => bif !isStr k then none else (bound 0 lo).bind fun l => (bound s.length hi).bind fun u =>
      bif between 0 l u && leI u (s.length : Int) then some (.str (cutL s l u)) else none
  | .lst sz es => bif !eszIs k sz then none else (bound 0 lo).bind fun l => (bound es.length hi).bind fun u =>
      bif between 0 l u && leI u (es.length : Int) then some (.lst sz (cutL es l u)) else none
  | .own n ver => (blkAt h n ver).bind fun b => bif !eszIs k b.sz then none else (bound 0 lo).bind fun l => (bound b.els.length hi).bind fun u =>
      bif between 0 l u && leI u (b.els.length : Int) then some (.sl n ver l.toNat (u.toNat - l.toNat)) else none
  | .sl n ver off len => (blkAt h n ver).bind fun b => bif !eszIs k b.sz then none else (bound 0 lo).bind fun l => (bound len hi).bind fun u =>
      bif between 0 l u && decide (off + u.toNat ≤ b.els.length) then some (.sl n ver (off + l.toNat) (u.toNat - l.toNat)) else none
  | .nilS => bif !isSlice k then none else (bound 0 lo).bind fun l => (bound 0 hi).bind fun u => bif l == 0 && u == 0 then some .nilS else none
  | _ => none

def push (h : List Blk) (b : Blk) : List Blk := h ++ [b]

def limitB : Nat := 70368744177664
def fits (n eb : Nat) : Bool := decide (n * eb ≤ limitB) && decide (n ≤ limitB)

section ops
variable {β : Type} (X : Ctx) (t : Nat → AV) (h : List Blk) (leak : Bool) (K : AV → List Blk → Bool → Option β)

/-- append: what is behind the base is the base's own alone where it shows the whole of its block. -/
def appendE (T : Nat) (a x : AV) : Option β :=
  match tk X T with
  | .slice esz eb ety =>
    (match x with
     | .nilS => some (esz, [], false)
     | .str b => some (1, b.map byteV, false)
     | x => shown h x).bind fun p => match p with
      | (sz, xs, rf) =>
        bif Nat.beq sz esz then
          match a with
          | .nilS => bif fits xs.length eb then K (.own h.length 0) (push h ⟨esz, ety, xs, false, rf, false, 0⟩) leak else none
          | .own n ver => (blkAt h n ver).bind fun b => match b with
            | ⟨bsz, bty, els, box, brf, fz, _⟩ =>
              bif !fz && Nat.beq bsz esz && Nat.beq bty ety && !box && fits (els.length + xs.length) eb then
                K (.own n (ver + 1)) (updAt h n ⟨bsz, bty, els ++ xs, box, brf || rf, fz, ver + 1⟩) (leak || (rf && Nat.blt n X.nr))
              else none
          | .sl n ver off len => (blkAt h n ver).bind fun b => match b with
            | ⟨bsz, bty, els, box, brf, fz, _⟩ =>
              bif !fz && Nat.beq bsz esz && Nat.beq bty ety && !box && decide (off + len + xs.length ≤ els.length) then
                K (.sl n ver off (len + xs.length)) (updAt h n ⟨bsz, bty, splice els (off + len) xs, box, brf || rf, fz, ver⟩) (leak || (rf && Nat.blt n X.nr))
              else none
          | _ => none
        else none
  | _ => none
end ops

/-- clear: the elements that a slice shows become zero. -/
def clearE {β : Type} (X : Ctx) (h : List Blk) (leak : Bool) (K : AV → List Blk → Bool → Option β) (esz ety : Nat) (x : AV) : Option β :=
  bif valRef (zeroCanon X ety) then none else
  match x with
  | .nilS => K .undef h leak
  | .own n ver => (blkAt h n ver).bind fun b => match b with
    | ⟨bsz, bty, els, box, brf, fz, bver⟩ =>
      bif !fz && Nat.beq bsz esz && Nat.beq bty ety && !box then K .undef (updAt h n ⟨bsz, bty, splice els 0 (List.replicate els.length (zeroCanon X ety)), box, brf, fz, bver⟩) leak else none
  | .sl n ver off len => (blkAt h n ver).bind fun b => match b with
    | ⟨bsz, bty, els, box, brf, fz, bver⟩ =>
      bif !fz && Nat.beq bsz esz && Nat.beq bty ety && !box then K .undef (updAt h n ⟨bsz, bty, splice els off (List.replicate len (zeroCanon X ety)), box, brf, fz, bver⟩) leak else none
  | _ => none

/-- A slice with a bound on its room: that it may be taken. -/
def slice3 (h : List Blk) (k : TK) (x : AV) (lo hi : Option AV) (mx : AV) : Bool :=
  match (match x with
    | .own n ver => (blkAt h n ver).bind fun b => bif eszIs k b.sz then some b.els.length else none
    | .sl n ver off len => (blkAt h n ver).bind fun b => bif eszIs k b.sz && decide (off + len ≤ b.els.length) then some len else none
    | _ => none), asI mx with
  | some len, some m => match bound 0 lo, bound len hi with
    | some l, some u => hi.isSome && between 0 l u && leI u m.2 && leI m.2 (len : Int)
    | _, _ => false
  | _, _ => false

def isU : AV → Bool
  | .undef => true
  | .tup _ => true
  | _ => false
def anyU : List AV → Bool
  | [] => false
  | v :: r => isU v || anyU r

/-- What a function value does not hold here. -/
def badCap : AV → Bool
  | .undef => true
  | .tup _ => true
  | .agg _ => true
  | .fn _ _ => true
  | _ => false
def anyBad : List AV → Bool
  | [] => false
  | v :: r => badCap v || anyBad r

def fieldsOf : TK → List (Nat × Nat × Bool)
  | .agg fs => fs
  | _ => []

def buildCells : List (Nat × Nat × Bool) → List AV → List (Nat × AV) → Option (List AV)
  | _, cs, [] => some cs
  | fs, cs, (i, v) :: r => (nth fs i).bind fun f =>
      bif Nat.beq (cells v).length f.2.1 && !isU v && Nat.ble (f.1 + f.2.1) cs.length then buildCells fs (splice cs f.1 (cells v)) r else none

/-- The parts of a slice's literal: 0, 1, 2, .. in order. -/
def inOrder : Nat → List (Nat × AV) → Option (List AV)
  | _, [] => some []
  | i, (j, v) :: r => bif Nat.beq i j then (inOrder (i + 1) r).bind fun l => some (v :: l) else none
def allSized (sz : Nat) : List AV → Bool
  | [] => true
  | v :: r => Nat.beq (cells v).length sz && allSized sz r
def anyRef : List AV → Bool
  | [] => false
  | v :: r => valRef v || anyRef r
/-- As it goes to a reader: its nil slices are empty lists. -/
def canonV (X : Ctx) (T : Nat) (v : AV) : AV :=
  match v with
  | .agg cs => .agg (canons cs (tz X T))
  | .nilS => canon .nilS (nthD (tz X T) 0)
  | v => v

def pairs (t : Nat → AV) (ps : List (Nat × Operand)) : List (Nat × AV) := ps.map fun p => (p.1, ev t p.2)

section ops
variable {β : Type} (X : Ctx) (t : Nat → AV) (h : List Blk) (leak : Bool) (K : AV → List Blk → Bool → Option β)

def storeE (T : Nat) (a x : AV) : Option β :=
  bif isU x then none else
  match a with
  | .ptr n ver idx off => (blkAt h n ver).bind fun b => match b with
      | ⟨bsz, bty, els, box, brf, fz, bver⟩ => (nth els idx).bind fun e =>
        bif !fz && Nat.beq (cells x).length (tsz X T) && Nat.ble (off + tsz X T) (cells e).length && Nat.ble 1 (tsz X T) then
          forceV (setPart e off (cells (bif box then x else canonV X T x))) fun e' =>
            K .undef (updAt h n ⟨bsz, bty, updAt els idx e', box, brf || valRef x, fz, bver⟩) (leak || (valRef x && Nat.blt n X.nr))
        else none
  | _ => none

def loadE (T : Nat) (a : AV) (K : AV → Option β) : Option β :=
  match a with
  | .ptr n ver idx off => (blkAt h n ver).bind fun b => (nth b.els idx).bind fun e =>
      bif Nat.ble (off + tsz X T) (cells e).length && Nat.ble 1 (tsz X T) then K (partOf (isAgg (tk X T)) e off (tsz X T)) else none
  | .rptr cs off => bif Nat.ble (off + tsz X T) cs.length && Nat.ble 1 (tsz X T) then K (partOf (isAgg (tk X T)) (.agg cs) off (tsz X T)) else none
  | _ => none

/-- One operation that calls nothing: its value and the blocks behind it. 'mk': a list is begun here, or a literal's block is to be written later. -/
def op1 (mk : Bool) (ty : Nat) (o : Op) : Option β :=
  match o with
  | .move x => K (ev t x) h leak
  | .assign x => bif mk then
        match ev t x, tk X ty with
        | .nilS, .slice esz _ ety => K (.own h.length 0) (push h ⟨esz, ety, [], false, false, false, 0⟩) leak
        | v, _ => K v h leak
      else K (ev t x) h leak
  | .alloc T => forceV (zeroOf X T) fun z => bif Nat.ble 1 (tsz X T) then K (.ptr h.length 0 0 0) (push h ⟨tsz X T, T, [z], true, valRef z, false, 0⟩) leak else none
  | .box T x => forceV (ev t x) fun v => bif Nat.beq (cells v).length (tsz X T) && !isU v && Nat.ble 1 (tsz X T) then
      K (.ptr h.length 0 0 0) (push h ⟨tsz X T, T, [v], true, valRef v, false, 0⟩) leak else none
  | .build T ps => match tk X T with
      | .agg fs => bif Nat.ble 1 (tsz X T) then (buildCells fs ((tz X T).map fresh) (pairs t ps.toList)).bind fun cs => K (.agg cs) h leak else none
      | _ => none
  | .buildSlice T len ps => match tk X T with
      | .slice esz _ ety =>
        (inOrder 0 (pairs t ps.toList)).bind fun l => forces l fun l =>
        bif Nat.beq l.length len && allSized esz l && !anyU l && Nat.ble (len * esz) 16777216 then
          match l with
          | [] => K .nilS h leak
          | v :: r => bif anyRef (v :: r) || mk then
              K (.own h.length 0) (push h ⟨esz, ety, (v :: r).map (canonV X ety), false, anyRef (v :: r), false, 0⟩) leak
            else K (.lst esz ((v :: r).map (canonV X ety))) h leak
        else none
      | _ => none
  | .load T a => loadE X h T (ev t a) fun v => K v h leak
  | .store T a x => storeE X h leak K T (ev t a) (ev t x)
  | .nilCheck x => match ev t x with
      | .ptr n ver idx off => (blkAt h n ver).bind fun _ => K (.ptr n ver idx off) h leak
      | .rptr cs off => K (.rptr cs off) h leak
      | _ => none
  | .binOp op T x y _ => (binE X T op (ev t x) (ev t y)).bind fun v => K v h leak
  | .unOp op _ x => (unE X op (ev t x)).bind fun v => K v h leak
  | .convert S T x => (convE X h S T (ev t x)).bind fun v => K v h leak
  | .makeFunc (.func f) first cap => match first.toList with
      | [] => forces (cap.toList.map (ev t)) fun l => bif anyBad l then none else K (.fn f l) h leak
      | _ => none
  | .makeSlice T l c => match tk X T with
      | .slice esz eb ety => (asI (ev t l)).bind fun n => (asI (ev t c)).bind fun m =>
          bif n.2 == m.2 && leI 0 n.2 && fits n.2.toNat eb && !valRef (zeroCanon X ety) then
            K (.own h.length 0) (push h ⟨esz, ety, List.replicate n.2.toNat (zeroCanon X ety), false, false, false, 0⟩) leak
          else none
      | _ => none
  | .slice T x lo hi none => (sliceE h (tk X T) (ev t x) (lo.map (ev t)) (hi.map (ev t))).bind fun v => K v h leak
  | .slice T x lo hi (some m) => bif slice3 h (tk X T) (ev t x) (lo.map (ev t)) (hi.map (ev t)) (ev t m) then K .undef h leak else none
  | .fieldAddr T x f => (nth (fieldsOf (tk X T)) f).bind fun p => match ev t x with
      | .ptr n ver idx off => (blkAt h n ver).bind fun _ => K (.ptr n ver idx (off + p.1)) h leak
      | .rptr cs off => K (.rptr cs (off + p.1)) h leak
      | _ => none
  | .field T x f => (nth (fieldsOf (tk X T)) f).bind fun p => match ev t x with
      | .agg cs => bif Nat.ble (p.1 + p.2.1) cs.length then K (partOf p.2.2 (.agg cs) p.1 p.2.1) h leak else none
      | _ => none
  | .indexAddr T x i => match tk X T with
      | .slice esz _ _ => (asI (ev t i)).bind fun n => match ev t x with
          | .lst sz l => bif Nat.beq sz esz && below n.2 l.length then (nth l n.2.toNat).bind fun e => K (.rptr (cells e) 0) h leak else none
          | .own m ver => (blkAt h m ver).bind fun b => bif Nat.beq b.sz esz && below n.2 b.els.length then K (.ptr m ver n.2.toNat 0) h leak else none
          | .sl m ver off len => (blkAt h m ver).bind fun b => bif Nat.beq b.sz esz && below n.2 len && decide (off + n.2.toNat < b.els.length) then K (.ptr m ver (off + n.2.toNat) 0) h leak else none
          | _ => none
      | _ => none
  | .index T x i => match ev t x with
      | .str b => bif !isStr (tk X T) then none else (asI (ev t i)).bind fun n => bif below n.2 b.length then (nth b n.2.toNat).bind fun c => K (byteV c) h leak else none
      | _ => none
  | .extract x i => (asTup (ev t x)).bind fun vs => (nth vs i).bind fun v => K v h leak
  | .call c => match c.callee with
      | .builtin .len => match c.args.toList, c.argTypes.toList with
          | [x], [T] => (lenOf h (tk X T) (ev t x)).bind fun n => K (.int .i64 n) h leak
          | _, _ => none
      | .builtin .append => match c.args.toList, c.argTypes.toList with
          | [a, x], [T, U] => bif isSlice (tk X U) || isStr (tk X U) then appendE X h leak K T (ev t a) (ev t x) else none
          | _, _ => none
      | .builtin .clear => match c.args.toList, c.argTypes.toList with
          | [x], [T] => match tk X T with
              | .slice esz _ ety => clearE X h leak K esz ety (ev t x)
              | _ => none
          | _, _ => none
      | .builtin .max => match c.args.toList with
          | [a, b] => (asI (ev t a)).bind fun x => (asI (ev t b)).bind fun y => bif decide (x.1 = y.1) then K (.int x.1 (if y.2 > x.2 then y.2 else x.2)) h leak else none
          | _ => none
      | .builtin .min => match c.args.toList with
          | [a, b] => (asI (ev t a)).bind fun x => (asI (ev t b)).bind fun y => bif decide (x.1 = y.1) then K (.int x.1 (if y.2 < x.2 then y.2 else x.2)) h leak else none
          | _ => none
      | _ => none
  | _ => none
end ops

/-! ### Calls -/

/-- A cell as it goes to a reader; a block that it shows whole or in part goes inline. -/
def exCell (h : List Blk) (z c : AV) : Option AV :=
  match c with
  | .nilS => some (canon .nilS z)
  | .own n ver => (blkAt h n ver).bind fun b => bif b.rf then none else some (.lst b.sz b.els)
  | .sl n ver off len => (blkAt h n ver).bind fun b => bif b.rf then none else some (.lst b.sz (takeN len (dropN off b.els)))
  | c => bif hasRef c then none else some c
def exCells (h : List Blk) : List AV → List AV → Option (List AV)
  | [], [] => some []
  | z :: zs, c :: cs => (exCell h z c).bind fun a => (exCells h zs cs).bind fun r => some (a :: r)
  | _, _ => none
def exV (X : Ctx) (h : List Blk) (T : Nat) (v : AV) : Option AV :=
  match v with
  | .agg cs => bif hasRefs cs || anyNil cs then (exCells h (tz X T) cs).bind fun r => some (.agg r) else some v
  | v => exCell h (nthD (tz X T) 0) v
where
  anyNil : List AV → Bool
    | [] => false
    | .nilS :: _ => true
    | _ :: r => anyNil r

def names : List AV → List Nat
  | [] => []
  | .own n _ :: r => n :: names r
  | .sl n _ _ _ :: r => n :: names r
  | .ptr n _ _ _ :: r => n :: names r
  | .fn _ cap :: r => capNames cap ++ names r
  | _ :: r => names r
where
  capNames : List AV → List Nat
    | [] => []
    | .ptr n _ _ _ :: r => n :: capNames r
    | .own n _ :: r => n :: capNames r
    | .sl n _ _ _ :: r => n :: capNames r
    | _ :: r => capNames r

/-- A struct that brings its slices' blocks along. -/
def prepCs (h : List Blk) : List AV → List Nat → List Bool → Option (List AV × List Nat × List Bool)
  | [], raws, fixs => some ([], raws, fixs)
  | c :: cs, raws, fixs =>
    match c with
    | .own n ver => (blkAt h n ver).bind fun _ => bif hasN raws n then none else (prepCs h cs (raws ++ [n]) (fixs ++ [true])).bind fun r => some (.own raws.length 0 :: r.1, r.2)
    | .sl n ver off len => (blkAt h n ver).bind fun _ => bif hasN raws n then none else (prepCs h cs (raws ++ [n]) (fixs ++ [true])).bind fun r => some (.sl raws.length 0 off len :: r.1, r.2)
    | .bool b => (prepCs h cs raws fixs).bind fun r => some (.bool b :: r.1, r.2)
    | .int k n => (prepCs h cs raws fixs).bind fun r => some (.int k n :: r.1, r.2)
    | .str s => (prepCs h cs raws fixs).bind fun r => some (.str s :: r.1, r.2)
    | .nilS => (prepCs h cs raws fixs).bind fun r => some (.nilS :: r.1, r.2)
    | _ => none

/-- The arguments of a call that works in memory of its own: what is read goes inline (0); a raw one (a variable's address, a slice over the whole of its block) brings its block along, and it may grow (1) or not (2). -/
def prep (X : Ctx) (h : List Blk) : List Nat → List Nat → List AV → List Nat → List Bool → Option (List AV × List Nat × List Bool)
  | _, [], [], raws, fixs => some ([], raws, fixs)
  | ms, T :: Ts, a :: as, raws, fixs =>
    match ms with
    | [] => (exV X h T a).bind fun v => (prep X h [] Ts as raws fixs).bind fun r => some (v :: r.1, r.2)
    | 0 :: ms => (exV X h T a).bind fun v => (prep X h ms Ts as raws fixs).bind fun r => some (v :: r.1, r.2)
    | m :: ms => match a with
        | .ptr n ver 0 0 => (blkAt h n ver).bind fun b => bif hasN raws n || !b.box then none else (prep X h ms Ts as (raws ++ [n]) (fixs ++ [true])).bind fun r => some (.ptr raws.length 0 0 0 :: r.1, r.2)
        | .own n ver => (blkAt h n ver).bind fun _ => bif hasN raws n then none else (prep X h ms Ts as (raws ++ [n]) (fixs ++ [Nat.beq m 2])).bind fun r => some (.own raws.length 0 :: r.1, r.2)
        | .sl n ver off len => (blkAt h n ver).bind fun _ => bif hasN raws n then none else (prep X h ms Ts as (raws ++ [n]) (fixs ++ [true])).bind fun r => some (.sl raws.length 0 off len :: r.1, r.2)
        | .nilS => (prep X h ms Ts as raws fixs).bind fun r => some (.nilS :: r.1, r.2)
        | .agg cs => (prepCs h cs raws fixs).bind fun p => (prep X h ms Ts as p.2.1 p.2.2).bind fun r => some (.agg p.1 :: r.1, r.2)
        | _ => none
  | _, _, _, _, _ => none

def rawBlks (h : List Blk) : List Nat → Option (List Blk)
  | [] => some []
  | n :: r => (nth h n).bind fun b => match b with
    | ⟨sz, ty, els, box, rf, fz, _⟩ => bif rf || fz then none else (rawBlks h r).bind fun l => some (⟨sz, ty, els, box, false, false, 0⟩ :: l)
/-- The raw blocks back; one that may have grown is one version on. -/
def putRaws (h : List Blk) : List Nat → List Bool → List Blk → Option (List Blk)
  | n :: ns, fix :: fs, b :: bs => (nth h n).bind fun c => match b, c with
    | ⟨sz, ty, els, box, rf, fz, _⟩, ⟨_, _, els0, _, _, _, ver⟩ =>
      bif box || (fix && Nat.beq els.length els0.length) then putRaws (updAt h n ⟨sz, ty, els, box, rf, fz, ver⟩) ns fs bs
      else bif fix then none else putRaws (updAt h n ⟨sz, ty, els, box, rf, fz, ver + 1⟩) ns fs bs
  | [], [], [] => some h
  | _, _, _ => none

/-- The names that go to a reader. -/
def visOf : List Nat → List AV → List Nat
  | _, [] => []
  | [], a :: as => names (cells a) ++ visOf [] as
  | 0 :: ms, a :: as => names (cells a) ++ visOf ms as
  | _ :: ms, _ :: as => visOf ms as
def isLst : AV → Bool
  | .lst _ _ => true
  | _ => false
def anyLst : List AV → Bool
  | [] => false
  | v :: r => isLst v || anyLst r
def hasL : AV → Bool
  | .agg cs => anyLst cs
  | .tup vs => tupL vs
  | v => isLst v
where
  tupL : List AV → Bool
    | [] => false
    | v :: r => anyLst (cells v) || tupL r
/-- What may be shared from now on stays as it is. -/
def freezeE (h : List Blk) : List Nat → List Blk
  | [] => h
  | n :: r => freezeE (match nth h n with
    | some ⟨sz, ty, els, box, rf, _, ver⟩ => updAt h n ⟨sz, ty, els, box, rf, true, ver⟩
    | none => h) r

/-- Is one of the names the caller's own? -/
def oldN (nr : Nat) : List Nat → Bool
  | [] => false
  | n :: r => Nat.blt n nr || oldN nr r
/-- A result: what the call made goes inline. -/
def resX (X : Ctx) (h : List Blk) (T : Nat) (v : AV) : Option AV := bif oldN X.nr (names (cells v)) then none else exV X h T v

/-! ### Regions that draw their order -/

def edgesOf (o : Oper) : List Nat := (o.after.toList.filter fun e => Region.binds .any e).map (·.on)
def befs : List Oper → List (List Nat) → List (List Nat)
  | [], acc => acc
  | o :: r, acc => befs r (acc ++ [edgesOf o ++ (edgesOf o).flatMap fun j => (nth acc j).getD []])

def tmpsOf : List Operand → List Nat
  | [] => []
  | .tmp t :: r => t :: tmpsOf r
  | _ :: r => tmpsOf r
/-- The slots that an operation reads (its guard's among them). -/
def readsOf (all : List Oper) (o : Oper) : List Nat :=
  tmpsOf o.op.operands.toList ++ (match o.guard with
    | some (g, _) => ((nth all g).bind (·.dst)).toList
    | none => [])
def apartN (a b : List Nat) : Bool := match a with
  | [] => true
  | x :: r => !hasN b x && apartN r b

def valNames (v : AV) : List Nat := names (cells v)
def namesOf (t : Nat → AV) : List Operand → List Nat
  | [] => []
  | x :: r => valNames (ev t x) ++ namesOf t r
/-- The names that a call may write through. -/
def rawNames : List Nat → List AV → List Nat
  | _, [] => []
  | [], _ => []
  | 0 :: ms, _ :: as => rawNames ms as
  | _ :: ms, a :: as => valNames a ++ rawNames ms as

def footE (X : Ctx) (mk : Bool) (t : Nat → AV) (o : Op) : Option Foot :=
  match o with
  | .move _ => some ⟨false, [], []⟩
  | .pick _ _ _ => some ⟨false, [], []⟩
  | .build _ _ => some ⟨false, [], []⟩
  | .binOp _ _ _ _ _ => some ⟨false, [], []⟩
  | .unOp _ _ _ => some ⟨false, [], []⟩
  | .makeFunc _ _ _ => some ⟨false, [], []⟩
  | .field _ _ _ => some ⟨false, [], []⟩
  | .index _ _ _ => some ⟨false, [], []⟩
  | .extract _ _ => some ⟨false, [], []⟩
  | .assign _ => some ⟨mk, [], []⟩
  | .buildSlice _ _ ps => some ⟨mk || anyRef (ps.toList.map fun p => ev t p.2), [], []⟩
  | .alloc _ => some ⟨true, [], []⟩
  | .box _ _ => some ⟨true, [], []⟩
  | .makeSlice _ _ _ => some ⟨true, [], []⟩
  | .load _ a => some ⟨false, [], valNames (ev t a)⟩
  | .nilCheck a => some ⟨false, [], valNames (ev t a)⟩
  | .fieldAddr _ a _ => some ⟨false, [], valNames (ev t a)⟩
  | .convert _ _ x => some ⟨false, [], valNames (ev t x)⟩
  | .slice _ x _ _ none => some ⟨false, [], valNames (ev t x)⟩
  | .indexAddr _ x _ => some ⟨false, [], valNames (ev t x)⟩
  | .store _ a _ => some ⟨true, valNames (ev t a), []⟩
  | .call c => match c.callee with
      | .builtin .len => some ⟨false, [], namesOf t c.args.toList⟩
      | .builtin .max => some ⟨false, [], []⟩
      | .builtin .min => some ⟨false, [], []⟩
      | .builtin .append => some ⟨true, namesOf t c.args.toList, []⟩
      | .value f => match ev t f with
          | .fn f [] => match X.mode f with
              | some ms => some ⟨true, rawNames ms (c.args.toList.map (ev t)), []⟩
              | none => bif anyRef (c.args.toList.map (ev t)) then none else some ⟨true, [], []⟩
          | _ => none
      | _ => none
  | _ => none

/-- Is an operation wanted? -/
def wantedF (all : List Oper) (o : Oper) (t : Nat → AV) : Option Bool :=
  match o.guard with
  | none => some true
  | some (g, want) => ((nth all g).bind (·.dst)).bind fun d => match t d with
      | .bool b => some (bif want then b else !b)
      | .tup _ => some false
      | _ => none
def mkOf (X : Ctx) (o : Oper) : Bool := match o.dst with
  | some d => X.own d
  | none => false
def entE (X : Ctx) (all : List Oper) (o : Oper) (t : Nat → AV) : Option Foot :=
  (wantedF all o t).bind fun w => bif w then footE X (mkOf X o) t o.op else some ⟨false, [], []⟩

/-- Two operations of which neither waits for the other: either order gives the same. -/
def indep (all : List Oper) (o : Oper) (e : Foot) (o' : Oper) (e' : Foot) : Bool :=
  apartN o.dst.toList (o'.dst.toList ++ readsOf all o') && apartN o'.dst.toList (readsOf all o) &&
  !(e.chg && e'.chg) && (!e.chg || apartN e'.lk e.wr) && (!e'.chg || apartN e.lk e'.wr)

def okPairs (all : List Oper) (before : List Nat) (o : Oper) (e : Foot) : Nat → List Foot → List Oper → Bool
  | i, e' :: es, o' :: os => (hasN before i || indep all o' e' o e) && okPairs all before o e (i + 1) es os
  | _, _, _ => true
def logE (X : Ctx) (all : List Oper) (bef : List (List Nat)) (i : Nat) (o : Oper) (t : Nat → AV) (log : List Foot) : Option (List Foot) :=
  (entE X all o t).bind fun e => bif okPairs all ((nth bef i).getD []) o e 0 log all then some (log ++ [e]) else none

/-- A list of all operations, each behind those that it waits for. -/
def topoB (E : List (List Nat)) : List Nat → List Nat → Bool
  | _, [] => true
  | seen, i :: r => Nat.blt i E.length && subN ((nth E i).getD []) seen && topoB E (i :: seen) r
where
  subN : List Nat → List Nat → Bool
    | [], _ => true
    | n :: r, s => hasN s n && subN r s
def coverB (ord : List Nat) : Nat → Bool
  | 0 => true
  | n + 1 => hasN ord n && coverB ord n
def upTo : Nat → List Nat
  | 0 => []
  | n + 1 => upTo n ++ [n]
def edgesM (m : Region.Mode) (o : Oper) : List Nat := (o.after.toList.filter fun e => Region.binds m e).map (·.on)
def topoOk (m : Region.Mode) (ops : List Oper) (ord : List Nat) : Bool := topoB (ops.map (edgesM m)) [] ord && coverB ord ops.length
def departsL (ops : List Oper) : Bool := ops.any fun o => o.after.toList.any fun e => !Region.binds .any e
/-- Whatever order is drawn, it is whole. -/
def drawOk (ops : List Oper) : Bool :=
  topoOk .any ops (upTo ops.length) && (!departsL ops || (topoOk .text ops (upTo ops.length) && topoOk .gc ops (Region.linearise .gc ops.toArray 0)))

/-! ### The machine -/

abbrev Ans := AV × List Blk × Bool

def resVals {β : Type} (X : Ctx) (t : Nat → AV) (h : List Blk) : List ResultVar → (List AV → Option β) → Option β
  | [], K => K []
  | .tmp i :: r, K => resVals X t h r fun l => K (t i :: l)
  | .cell a T :: r, K => loadE X h T (t a) fun v => resVals X t h r fun l => K (v :: l)
def one : List AV → AV
  | [v] => v
  | vs => .tup vs

/-- What a call in memory of its own hands back. -/
def resV (X : Ctx) (h : List Blk) (T : Nat) (v : AV) : Option AV :=
  match v with
  | .own n ver => bif Nat.blt n X.nr then (blkAt h n ver).bind fun _ => some (.own n ver) else exV X h T (.own n ver)
  | v => resX X h T v
def resVs (X : Ctx) (h : List Blk) : List Nat → List AV → Option (List AV)
  | [], [] => some []
  | T :: Ts, v :: vs => (resV X h T v).bind fun a => (resVs X h Ts vs).bind fun r => some (a :: r)
  | _, _ => none
def rawOut (X : Ctx) (h : List Blk) : List Blk → Option (List Blk)
  | [] => some []
  | ⟨sz, ty, els, box, rf, fz, ver⟩ :: r => (match rf, els with
      | false, els => some (⟨sz, ty, els, box, false, fz, ver⟩ : Blk)
      | true, [v] => (resX X h ty v).bind fun a => some ⟨sz, ty, [a], box, false, fz, ver⟩
      | _, _ => none).bind fun a => (rawOut X h r).bind fun l => some (a :: l)

def isTup : AV → Bool
  | .tup _ => true
  | _ => false
def anyTup : List AV → Bool
  | [] => false
  | v :: r => isTup v || anyTup r
def okTup : List AV → Bool
  | [_] => true
  | vs => !anyTup vs
/-- The end: in memory of its own ('iso') only the results and the raw blocks go out. -/
def finish (X : Ctx) (fn : Func) (iso : Bool) (t : Nat → AV) (h : List Blk) (leak : Bool) : Option Ans :=
  resVals X t h fn.results.toList fun vs => forces vs fun vs =>
    bif iso then (resVs X h fn.resultTypes.toList vs).bind fun vs => forces vs fun vs => (rawOut X h (takeN X.nr h)).bind fun bs => some (one vs, bs, false)
    else bif okTup vs then some (one vs, h, leak) else none

def exitIt (id : Nat) : List It → Option (List It)
  | .inBlock j :: k => bif Nat.beq j id then some k else exitIt id k
  | _ :: k => exitIt id k
  | [] => none

/-- A kept slot at a cut: versions of this call's own blocks begin anew. -/
def nvC (nr0 : Nat) (h : List Blk) : AV → AV
  | .own n ver => bif Nat.ble nr0 n then (match blkAt h n ver with | some _ => .own n 0 | none => .undef) else .own n ver
  | .sl n ver off len => bif Nat.ble nr0 n then (match blkAt h n ver with | some _ => .sl n 0 off len | none => .undef) else .sl n ver off len
  | .ptr n ver idx off => bif Nat.ble nr0 n then (match blkAt h n ver with | some _ => .ptr n 0 idx off | none => .undef) else .ptr n ver idx off
  | .tup _ => .undef
  | v => v
def nvCell (nr0 : Nat) (h : List Blk) : AV → AV
  | .fn f cap => .fn f (cap.map (nvC nr0 h))
  | v => nvC nr0 h v
def nvV (nr0 : Nat) (h : List Blk) : AV → AV
  | .agg cs => .agg (cs.map (nvCell nr0 h))
  | v => nvCell nr0 h v
def nvKeep (nr0 : Nat) (h : List Blk) (v : AV) : AV := bif valRef v then nvV nr0 h v else v
def nvBlks (nr0 : Nat) (h : List Blk) : Nat → List Blk → List Blk
  | _, [] => []
  | i, ⟨sz, ty, els, box, rf, fz, ver⟩ :: bs =>
    (bif Nat.ble nr0 i then ⟨sz, ty, bif rf then els.map (nvV nr0 h) else els, box, rf, fz, 0⟩ else ⟨sz, ty, els, box, rf, fz, ver⟩) :: nvBlks nr0 h (i + 1) bs

section machine
variable (X : Ctx) (fn : Func)
  (oc : Nat → List AV → List Blk → Option (AV × List Blk))
  (oi : Nat → List AV → List Blk → Option Ans)
  (ok : List It → List Nat → List AV → List Blk → Bool → Option Ans)

def rfBnd : List Blk → Nat
  | [] => 0
  | b :: bs => Nat.max (bif b.rf then bndAll b.els else 0) (rfBnd bs)
/-- The bound that takes in what the kept blocks name. -/
def growM : Nat → Nat → Nat → List Blk → Nat
  | 0, _, m, _ => m
  | k + 1, nr, m, h => bif Nat.ble (rfBnd (dropN nr (takeN m h))) m then m else growM k nr (Nat.max m (rfBnd (dropN nr (takeN m h)))) h
def mayCut (leak : Bool) (nr m : Nat) (h : List Blk) : Bool := !(leak && Nat.blt 0 nr) && allBelow m (dropN nr (takeN m h))

def cutTo (iso : Bool) (todo : List It) (ks : List Nat) (t : Nat → AV) (h : List Blk) (leak : Bool) : Option Ans :=
  forces (ks.map t) fun vs => forceN (growM 8 X.nr (Nat.max (bndAll vs) X.nr) h) fun m =>
    bif mayCut leak X.nr m h then
      ok todo ks (vs.map (nvKeep (bif iso then 0 else X.nr) h)) (nvBlks (bif iso then 0 else X.nr) h 0 (takeN m h)) leak
    else none

/-- A result that names a raw block names it as the caller does. -/
def rawBack1 (h : List Blk) (raws : List Nat) (v : AV) : Option AV := match v with
  | .own i _ => (nth raws i).bind fun n => (nth h n).bind fun b => some (.own n b.ver)
  | v => some v
def rawBackL (h : List Blk) (raws : List Nat) : List AV → Option (List AV)
  | [] => some []
  | v :: r => (rawBack1 h raws v).bind fun a => (rawBackL h raws r).bind fun l => some (a :: l)
def rawBack (h : List Blk) (raws : List Nat) (v : AV) : Option AV := match v with
  | .tup vs => (rawBackL h raws vs).bind fun l => some (.tup l)
  | v => rawBack1 h raws v

/-- Names shifted: a call that is handed no name makes its blocks behind all others. -/
def shC (k : Nat) : AV → AV
  | .own n ver => .own (k + n) ver
  | .sl n ver off len => .sl (k + n) ver off len
  | .ptr n ver idx off => .ptr (k + n) ver idx off
  | v => v
def shCell (k : Nat) : AV → AV
  | .fn f cap => .fn f (cap.map (shC k))
  | v => shC k v
def sh1 (k : Nat) : AV → AV
  | .agg cs => .agg (cs.map (shCell k))
  | v => shCell k v
def shV (k : Nat) : AV → AV
  | .tup vs => .tup (vs.map (sh1 k))
  | v => sh1 k v
def shB (k : Nat) : Blk → Blk
  | ⟨sz, ty, els, box, rf, fz, ver⟩ => ⟨sz, ty, bif rf then els.map (sh1 k) else els, box, rf, fz, ver⟩

/-- What leans on memory that stays as it is. -/
def dirtyC : AV → Bool
  | .lst _ _ => true
  | .rptr _ _ => true
  | .fn _ _ => true
  | _ => false
def dirtyCs : List AV → Bool
  | [] => false
  | c :: cs => dirtyC c || dirtyCs cs
def dirtyV : AV → Bool
  | .tup vs => tupD vs
  | v => dirtyCs (cells v)
where
  tupD : List AV → Bool
    | [] => false
    | v :: r => dirtyCs (cells v) || tupD r
def dirtyEls : List AV → Bool
  | [] => false
  | e :: r => dirtyCs (cells e) || dirtyEls r
def namesV : AV → List Nat
  | .tup vs => tupN vs
  | v => names (cells v)
where
  tupN : List AV → List Nat
    | [] => []
    | v :: r => names (cells v) ++ tupN r
/-- A block that nothing names any more. -/
def deadB : Blk → Blk
  | ⟨_, _, _, _, _, _, ver⟩ => ⟨1, 0, [], false, false, true, ver + 1⟩
def keepB (ns : List Nat) : Nat → List Blk → List Blk
  | _, [] => []
  | i, b :: bs => (bif hasN ns i then b else deadB b) :: keepB ns (i + 1) bs
/-- Those that stay: they name no block, and lean on nothing. -/
def pureB (ns : List Nat) : Nat → List Blk → Bool
  | _, [] => true
  | i, b :: bs => (!hasN ns i || (!b.rf && !dirtyEls b.els)) && pureB ns (i + 1) bs

/-- The same, told so that nothing is left to do. -/
def shW (k : Nat) (b : Blk) : Blk :=
  match b with
  | ⟨sz, ty, els, box, rf, fz, ver⟩ => match rf with
    | true => ⟨sz, ty, els.map (sh1 k), box, true, fz, ver⟩
    | false => ⟨sz, ty, els, box, false, fz, ver⟩
theorem shW_eq (k : Nat) : shW k = shB k := by
  funext b
  obtain ⟨sz, ty, els, box, rf, fz, ver⟩ := b
  cases rf <;> rfl
def forcesV {β : Type} (l : List AV) (K : List AV → Option β) : Option β :=
  match l with
  | [] => K []
  | v :: r => forceV v fun v => forcesV r fun r => K (v :: r)
theorem forcesV_eq {β : Type} (l : List AV) : ∀ (K : List AV → Option β), forcesV l K = K l := by
  induction l with
  | nil => intro K; rfl
  | cons v r ih => intro K; simp only [forcesV, forceV_eq, ih]
/-- The blocks themselves go on. -/
def forceH {β : Type} (h : List Blk) (K : List Blk → Option β) : Option β :=
  match h with
  | [] => K []
  | b :: r => match b with
    | ⟨sz, ty, els, box, rf, fz, ver⟩ => match rf with
      | true => forcesV els fun els => forceH r fun r => K (⟨sz, ty, els, box, true, fz, ver⟩ :: r)
      | false => forceH r fun r => K (⟨sz, ty, els, box, false, fz, ver⟩ :: r)
theorem forceH_eq {β : Type} (h : List Blk) : ∀ (K : List Blk → Option β), forceH h K = K h := by
  induction h with
  | nil => intro K; rfl
  | cons b r ih =>
    intro K
    obtain ⟨sz, ty, els, box, rf, fz, ver⟩ := b
    cases rf <;> simp only [forceH, forcesV_eq, ih]

/-- A call: in memory of its own ('some'), or in this memory ('none'). -/
def callF0 {β : Type} (h : List Blk) (leak : Bool) (Ts : List Nat) (f : Nat) (as : List AV) (K : AV → List Blk → Bool → Option β) : Option β :=
  match X.mode f with
  | some ms => (prep X h ms Ts as [] []).bind fun pr => match pr with
      | (as', raws, fixs) => bif apartN raws (visOf ms as) then (rawBlks h raws).bind fun bs => (oc f as' bs).bind fun r => match r with
        | (v, bs') => (putRaws h raws fixs bs').bind fun h' => (rawBack h' raws v).bind fun v =>
          K v (bif hasL v || !raws.isEmpty then freezeE h' (visOf ms as) else h') leak
        else none
  | none => bif anyRef as then
      bif X.made f then (prep X h [] Ts as [] []).bind fun pr => match pr with
        | (as', _, _) => (oi f as' []).bind fun r => match r with
          | (v, h1, _) => bif !dirtyV v && pureB (namesV v) 0 h1 then K (shV h.length v) (h ++ (keepB (namesV v) 0 h1).map (shW h.length)) leak else none
      else (oi f as h).bind fun r => match r with
        | (v, h', l) => K v h' (leak || l)
      else (oi f as []).bind fun r => match r with
        | (v, h1, _) => K (shV h.length v) (h ++ h1.map (shW h.length)) leak
def callF {β : Type} (h : List Blk) (leak : Bool) (Ts : List Nat) (f : Nat) (as : List AV) (K : AV → List Blk → Bool → Option β) : Option β :=
  callF0 X oc oi h leak Ts f as fun v h l => forceV v fun v => forceH h fun h => K v h l
theorem callF_def {β : Type} {h : List Blk} {leak : Bool} {Ts : List Nat} {f : Nat} {as : List AV} {K : AV → List Blk → Bool → Option β} : callF X oc oi h leak Ts f as K = callF0 X oc oi h leak Ts f as K := by
  unfold callF
  simp only [forceV_eq, forceH_eq]
def callE {β : Type} (t : Nat → AV) (h : List Blk) (leak : Bool) (c : Call) (K : AV → List Blk → Bool → Option β) : Option β :=
  match c.callee with
  | .value f => match ev t f with
      | .fn f [] => callF X oc oi h leak c.argTypes.toList f (c.args.toList.map (ev t)) K
      | .fn f cap => match X.mode f with
          | none => callF X oc oi h leak c.argTypes.toList f (c.args.toList.map (ev t) ++ cap) K
          | some _ => none
      | _ => none
  | _ => none

def putDst {β : Type} (nt : Nat) (dst : Option Nat) (v : AV) (t : Nat → AV) (K : (Nat → AV) → Option β) : Option β :=
  match dst with
  | some d => bif Nat.blt d nt then forceV v fun v => K (put t d v) else none
  | none => K t

def callOf : Op → Option Call
  | .call c => match c.callee with
      | .value _ => some c
      | _ => none
  | _ => none

def setB (t : Nat → AV) (c : Operand) (b : Bool) : Nat → AV := match c with
  | .tmp i => put t i (.bool b)
  | _ => t

def go (iso : Bool) : Nat → List It → (Nat → AV) → List Blk → Bool → Option Ans
  | 0, _, _, _, _ => none
  | _ + 1, [], t, h, l => finish X fn iso t h l
  | n + 1, it :: k, t, h, l =>
    match it with
    | .inBlock _ => go iso n k t h l
    | .inLoop c => match k with
        | .inBlock id :: _ => (X.keep id).bind fun ks => cutTo X ok iso (.inLoop c :: k) ks t h l
        | _ => none
    | .code c => match c with
        | .ret => finish X fn iso t h l
        | .skip => go iso n k t h l
        | .label _ => go iso n k t h l
        | .seq a b => go iso n (.code a :: .code b :: k) t h l
        | .cond c x y => (asB (ev t c)).bind fun b =>
            cond b (go iso n (.code x :: k) (setB t c true) h l) (go iso n (.code y :: k) (setB t c false) h l)
        | .block id c => go iso n (.code c :: .inBlock id :: k) t h l
        | .loop c => match k with
            | .inBlock id :: _ => (X.keep id).bind fun ks => cutTo X ok iso (.inLoop c :: k) ks t h l
            | _ => none
        | .exit id => (exitIt id k).bind fun k' => go iso n k' t h l
        | .region id ops draw => bif !draw || drawOk ops.toList then (match X.cutr id with
            | some ks => cutTo X ok iso (.ops draw ops.toList (bif draw then befs ops.toList [] else []) 0 ops.toList [] :: k) ks t h l
            | none => go iso n (.ops draw ops.toList (bif draw then befs ops.toList [] else []) 0 ops.toList [] :: k) t h l) else none
        | _ => none
    | .ops _ _ _ _ [] _ => go iso n k t h l
    | .ops draw all bef i (o :: r) log =>
      (bif draw then logE X all bef i o t log else some []).bind fun log =>
        let nx := It.ops draw all bef (i + 1) r log
        let skip (t : Nat → AV) : Option Ans := putDst X.nt o.dst (.tup []) t fun t => go iso n (nx :: k) t h l
        let doit (t : Nat → AV) : Option Ans := match callOf o.op with
          | some c => callE X oc oi t h l c fun v h l => putDst X.nt o.dst v t fun t => go iso n (nx :: k) t h l
          | none => match o.op with
          | .pick c a b => (asB (ev t c)).bind fun x =>
              cond x (putDst X.nt o.dst (ev t a) (setB t c true) fun t => go iso n (nx :: k) t h l)
                (putDst X.nt o.dst (ev t b) (setB t c false) fun t => go iso n (nx :: k) t h l)
          | op => op1 X t h l (fun v h l => putDst X.nt o.dst v t fun t => go iso n (nx :: k) t h l) (mkOf X o) o.type op
        match o.guard with
        | none => doit t
        | some (g, want) => ((nth all g).bind (·.dst)).bind fun d => match t d with
            | .bool b => cond b (bif want then doit (put t d (.bool true)) else skip (put t d (.bool true)))
                (bif want then skip (put t d (.bool false)) else doit (put t d (.bool false)))
            | .tup _ => skip t
            | _ => none
end machine

end Go.Proofs.Ytiibidadpgknjaa.Fi
