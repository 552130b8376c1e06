/- An abstract interpreter for the operations of the model: its values, its code, what a function answers. Nothing of the program's memory stands here. -/
import GoSem.Step
namespace Go.Proofs.Ytncnpgakflmibaa.Ai

inductive AV where
  | int (k : IntKind) (n : Int)
  | bool (b : Bool)
  | str (s : List UInt8)
  | nilp | nils | nilm | nilf | nili
  | sl (n : Nat) (cells : List AV) (tok : Option Nat)
  | ptr (b off : Nat)
  | eptr (cells : List AV)
  | arr (b off n : Nat)
  | agg (cells : List AV)
  | tup (vs : List AV)
  | fn (f : Nat) (cap : List AV)
  | unk
  deriving Inhabited

mutual
def AV.names : AV → List Nat
  | .sl _ cs tok => AV.namesL cs ++ tok.toList
  | .ptr b _ => [b]
  | .arr b _ _ => [b]
  | .eptr cs => AV.namesL cs
  | .agg cs => AV.namesL cs
  | .tup cs => AV.namesL cs
  | .fn _ cs => AV.namesL cs
  | _ => []
def AV.namesL : List AV → List Nat
  | [] => []
  | v :: vs => AV.names v ++ AV.namesL vs
end
def under (n : Nat) (l : List Nat) : Bool := l.all fun b => decide (b < n)

mutual
/-- Without the leave to append. -/
def AV.bare : AV → AV
  | .sl n cs _ => .sl n cs none
  | .agg cs => .agg (AV.bareL cs)
  | .tup cs => .tup (AV.bareL cs)
  | v => v
def AV.bareL : List AV → List AV
  | [] => []
  | v :: vs => AV.bare v :: AV.bareL vs
end

/-- Names turned. -/
def optAll {α : Type} : List (Option α) → Option (List α)
  | [] => some []
  | none :: _ => none
  | some a :: l => (optAll l).map (a :: ·)
mutual
def AV.ren (f : Nat → Option Nat) : AV → Option AV
  | .sl n cs tok => match AV.renL f cs, tok with
    | some cs, none => some (.sl n cs none)
    | some cs, some t => (f t).map fun t => .sl n cs (some t)
    | none, _ => none
  | .ptr b o => (f b).map fun b => .ptr b o
  | .arr b o n => (f b).map fun b => .arr b o n
  | .eptr cs => (AV.renL f cs).map .eptr
  | .agg cs => (AV.renL f cs).map .agg
  | .tup cs => (AV.renL f cs).map .tup
  | .fn g cs => (AV.renL f cs).map (.fn g)
  | v => some v
def AV.renL (f : Nat → Option Nat) : List AV → Option (List AV)
  | [] => some []
  | v :: vs => match AV.ren f v, AV.renL f vs with
    | some v, some vs => some (v :: vs)
    | _, _ => none
end

inductive Box where
  | cells (cs : List AV)
  | tok (n es : Nat)
  | dead
  deriving Inhabited
def Box.names : Box → List Nat
  | .cells cs => AV.namesL cs
  | _ => []
def Box.ren (f : Nat → Option Nat) : Box → Option Box
  | .cells cs => (AV.renL f cs).map .cells
  | b => some b

/-! ### Operations -/
inductive AO where
  | r (t : Nat)
  | c (v : AV)
inductive AOp where
  | mov (x : AO)
  | nilck (x : AO)
  | pick (c a b : AO)
  | alloc (zero : List AV)
  | box (x : AO)
  | newtok (es : Nat)
  | build (zero : List AV) (parts : List (Nat × Nat × AO))
  | lit (n : Nat) (zero : List AV) (parts : List (Nat × Nat × AO))
  | load (s : Nat) (ag : Bool) (a : AO)
  | loadI (s : Nat) (ag : Bool) (a : AO)
  | store (s : Nat) (a v : AO)
  | bin (op : BinOp) (x y : AO)
  | beq (ne : Bool) (x y : AO)
  | peq (ne : Bool) (x : AO)
  | eqs (ne : Bool) (x y : AO)
  | un (op : UnOp) (x : AO)
  | conv (k : IntKind) (x : AO)
  | s2b (x : AO)
  | b2s (x : AO)
  | mkarr (es : Nat) (zero : List AV) (len : AO)
  | slice (es : Nat) (x : AO) (lo hi : Option AO)
  | faddr (off : Nat) (x : AO)
  | field (off s : Nat) (ag : Bool) (x : AO)
  | iaddrA (len es : Nat) (x i : AO)
  | iaddr (es : Nat) (x i : AO)
  | idxA (len es : Nat) (ag : Bool) (x i : AO)
  | idxS (x i : AO)
  | extr (x : AO) (i : Nat)
  | len (str : Bool) (x : AO)
  | mx (l : List AO)
  | mn (l : List AO)
  | append (es bytes : Nat) (s x : AO)
  | callC (f : Nat) (args : List AO)
  | callR (f : Nat) (args : List AO)
  | callS (f : Nat) (args : List AO)
  | callVC (f : AO) (args : List AO)
  | callVR (f : AO) (args : List AO)
  | callVS (f : AO) (args : List AO)
  | mkfn (f : Nat) (cap : List AO)
  | idxB (x c : AO)
/-- one: an operation. sc: where slot g is b, l is done, and r (a bool) is the value; else g's own: into d. -/
inductive AItem where
  | one (d : Option Nat) (op : AOp)
  | sc (g : Nat) (b : Bool) (l : List AItem) (r : AO) (d : Nat)
inductive ACode where
  | skip
  | ops (l : List AItem) (draw : Bool) (live : List Nat)
  | seq (a b : ACode)
  | cond (c : AO) (a b : ACode)
  | block (id : Nat) (live : List Nat) (a : ACode)
  | loop (live : List Nat) (a : ACode)
  | exit (id : Nat)
  | ret
inductive ARes where
  | tmp (t : Nat)
  | cell (t s : Nat) (ag : Bool)
structure AFun where
  body : ACode
  res : List ARes

/-! ### What an operation answers -/
abbrev Fr := List (Nat × AV)
def fget : Fr → Nat → AV
  | [], _ => .unk
  | (j, v) :: r, i => if i = j then v else fget r i
def clean (live : List Nat) (fr : Fr) : Fr := live.map fun i => (i, fget fr i)
def ev (fr : Fr) : AO → AV
  | .r t => fget fr t
  | .c v => v
/-- v: the value; H: the boxes; esc: an elder box may lead to a younger one; wr: a box from before base may have been written. -/
structure An where
  v : AV
  H : List Box
  esc : Bool
  wr : Bool
abbrev Ans := Option An
abbrev CallFn := Nat → List AV → List Box → Ans

def cellsOf : AV → Option (List AV)
  | .agg cs => some cs
  | .tup _ => none
  | .unk => none
  | v => some [v]
def splice (off : Nat) (cs l : List AV) : List AV := l.take off ++ cs ++ l.drop (off + cs.length)
def fill (e : AO → AV) : List (Nat × Nat × AO) → List AV → Option (List AV)
  | [], l => some l
  | (off, s, x) :: r, l => (cellsOf (e x)).bind fun cs => if cs.length = s ∧ off + s ≤ l.length then fill e r (splice off cs l) else none
def rd (s : Nat) (ag : Bool) (l : List AV) : Option AV :=
  if ag then (if s ≤ l.length then some (.agg (l.take s)) else none) else l.head?
def bitop (op : BinOp) (k : IntKind) (x y : Int) : Option Int :=
  let a := BitVec.ofInt k.bits x
  let b := BitVec.ofInt k.bits y
  match op with
  | .and => some (k.wrap (a &&& b).toNat)
  | .or => some (k.wrap (a ||| b).toNat)
  | .xor => some (k.wrap (a ^^^ b).toNat)
  | .andNot => some (k.wrap (a &&& ~~~b).toNat)
  | _ => none
def binI (op : BinOp) (k : IntKind) (x y : Int) : Option AV :=
  match op with
  | .add => some (.int k (k.wrap (x + y)))
  | .sub => some (.int k (k.wrap (x - y)))
  | .mul => some (.int k (k.wrap (x * y)))
  | .quo => if y = 0 then none else some (.int k (k.wrap (x.tdiv y)))
  | .rem => if y = 0 then none else some (.int k (x.tmod y))
  | .eql => some (.bool (x == y))
  | .neq => some (.bool (x != y))
  | .lss => some (.bool (decide (x < y)))
  | .leq => some (.bool (decide (x ≤ y)))
  | .gtr => some (.bool (decide (y < x)))
  | .geq => some (.bool (decide (y ≤ x)))
  | op => (bitop op k x y).map (.int k)
def shiftI (op : BinOp) (k : IntKind) (x y : Int) : Option AV :=
  if y < 0 then none else
  match op with
  | .shl => some (.int k (k.wrap (x * 2 ^ (min y.toNat k.bits))))
  | .shr => some (.int k (x.fdiv (2 ^ (min y.toNat k.bits))))
  | _ => none
def strLess : List UInt8 → List UInt8 → Bool
  | _, [] => false
  | [], _ :: _ => true
  | a :: x, b :: y => decide (a < b) || (a == b && strLess x y)
def binS (op : BinOp) (x y : List UInt8) : Option AV :=
  match op with
  | .add => if x.length + y.length ≤ 9223372036854775807 then some (.str (x ++ y)) else none
  | .eql => some (.bool (x == y))
  | .neq => some (.bool (x != y))
  | .lss => some (.bool (strLess x y))
  | .leq => some (.bool (strLess x y || x == y))
  | .gtr => some (.bool (!(strLess x y || x == y)))
  | .geq => some (.bool (!strLess x y))
  | _ => none
def isShift : BinOp → Bool
  | .shl => true
  | .shr => true
  | _ => false
def binOp (op : BinOp) : AV → AV → Option AV
  | .int k x, .int k' y => if isShift op then shiftI op k x y else if k = k' then binI op k x y else none
  | .str x, .str y => binS op x y
  | _, _ => none
/-- Is a pointer none? -/
def isNilp : AV → Option Bool
  | .nilp => some true
  | .ptr _ _ => some false
  | .eptr _ => some false
  | _ => none
/-- Cells of plain kinds, one by one. -/
def eqCells : List AV → List AV → Option Bool
  | [], [] => some true
  | .int k x :: l, .int k' y :: m => if k = k' then (eqCells l m).map (x == y && ·) else none
  | .bool x :: l, .bool y :: m => (eqCells l m).map (x == y && ·)
  | .str x :: l, .str y :: m => (eqCells l m).map (x == y && ·)
  | _, _ => none
def unOp (op : UnOp) : AV → Option AV
  | .int k n => match op with
    | .neg => some (.int k (k.wrap (0 - n)))
    | .xor => (bitop .xor k (if k.signed then -1 else k.max) n).map (.int k)
    | _ => none
  | .bool b => match op with
    | .not => some (.bool !b)
    | _ => none
  | _ => none
def byteCells (s : List UInt8) : List AV := s.map fun b => .int .u8 b.toNat
def bytesOf : List AV → Option (List UInt8)
  | [] => some []
  | .int .u8 n :: l => (bytesOf l).map (UInt8.ofNat n.toNat :: ·)
  | _ :: _ => none
def foldMax : List AV → Option AV
  | [] => none
  | .int k x :: l => l.foldlM (fun a b => match a, b with
    | .int k x, .int k' y => if k = k' then some (.int k (if x < y then y else x)) else none
    | _, _ => none) (.int k x)
  | _ => none
def foldMin : List AV → Option AV
  | [] => none
  | .int k x :: l => l.foldlM (fun a b => match a, b with
    | .int k x, .int k' y => if k = k' then some (.int k (if y < x then y else x)) else none
    | _, _ => none) (.int k x)
  | _ => none
def reach (H : List Box) : Nat → List Nat → List Nat → List Nat
  | 0, _, acc => acc
  | _ + 1, [], acc => acc
  | k + 1, b :: r, acc => if acc.contains b then reach H k r acc else reach H k (r ++ ((H[b]?).map Box.names).getD []) (acc ++ [b])
def idxOf (ns : List Nat) (b : Nat) : Option Nat := ns.findIdx? (· == b)
def backOf (ns : List Nat) (m : Nat) (j : Nat) : Option Nat := if j < ns.length then ns[j]? else some (m + (j - ns.length))
def setAll {α : Type} (H : List α) : List Nat → List α → List α
  | b :: bs, x :: xs => setAll (H.set b x) bs xs
  | _, _ => H
def offHeap (args : List AV) (H : List Box) : Option (List Nat × List AV × List Box) :=
  (optAll ((reach H 1000 (AV.namesL args) []).map fun b => (H[b]?).bind (Box.ren (idxOf (reach H 1000 (AV.namesL args) []))))).bind fun H0 =>
  (AV.renL (idxOf (reach H 1000 (AV.namesL args) [])) args).bind fun args0 => some (reach H 1000 (AV.namesL args) [], args0, H0)
def boxNames (H : List Box) (b : Nat) : List Nat := ((H[b]?).map Box.names).getD []
def escaped (base : Nat) (H : List Box) (l : List Nat) : Bool := l.any fun b => !(under (max (b + 1) base) (boxNames H b))
def onHeap (base : Nat) (H : List Box) (ns : List Nat) (r : An) : Ans :=
  (optAll (r.H.map (Box.ren (backOf ns H.length)))).bind fun H2 =>
  (AV.ren (backOf ns H.length) r.v).bind fun v =>
  some ⟨v, setAll H ns (H2.take ns.length) ++ H2.drop ns.length, escaped base (setAll H ns (H2.take ns.length) ++ H2.drop ns.length) (ns ++ List.range' H.length (H2.length - ns.length)), ns.any fun b => decide (b < base)⟩
/-- A call on a heap of its own. -/
def callOn (call : CallFn) (f : Nat) (args : List AV) (H : List Box) (base : Nat) : Ans :=
  (offHeap args H).bind fun x => (call f x.2.1 x.2.2).bind (onHeap base H x.1)
def onRead (H : List Box) (ns : List Nat) (r : An) : Ans :=
  if r.wr = false ∧ r.H.length = ns.length then (AV.ren (backOf ns H.length) r.v).bind fun v => some ⟨v, H, false, false⟩ else none
/-- A call on a heap of its own that it leaves alone. -/
def callRead (call : CallFn) (f : Nat) (args : List AV) (H : List Box) : Ans :=
  (offHeap args H).bind fun x => (call f x.2.1 x.2.2).bind (onRead H x.1)
def onClosed (H : List Box) (r : An) : Ans := if AV.names r.v = [] then some ⟨r.v, H, false, false⟩ else none
/-- A call that has nothing to do with the heap. -/
def callClosed (call : CallFn) (f : Nat) (args : List AV) (H : List Box) : Ans :=
  if AV.namesL args = [] then (call f args []).bind (onClosed H) else none
def idxByte : List UInt8 → UInt8 → Int
  | [], _ => -1
  | b :: l, c => if b == c then 0 else if idxByte l c == -1 then -1 else idxByte l c + 1
def inInt (i : Int) (n : Nat) : Bool := decide (0 ≤ i) && decide (i.toNat < n)
def bound (e : AO → AV) (d : Nat) : Option AO → Option Nat
  | none => some d
  | some x => match e x with
    | .int _ i => if 0 ≤ i then some i.toNat else none
    | _ => none
def pure3 (H : List Box) (v : Option AV) : Ans := v.bind fun v => some ⟨v, H, false, false⟩
def lenOf : AV → Option Nat
  | .str s => some s.length
  | .sl n _ _ => some n
  | .nils => some 0
  | .arr _ _ n => some n
  | _ => none
def isStr : AV → Bool
  | .str _ => true
  | _ => false
def srcOf (H : List Box) (es : Nat) : AV → Option (Nat × List AV)
  | .sl n cs _ => if cs.length = n * es then some (n, cs) else none
  | .nils => some (0, [])
  | .str s => if es = 1 then some (s.length, byteCells s) else none
  | .arr b o n => match H[b]? with
    | some (.cells cs) => if o + n * es ≤ cs.length then some (n, (cs.drop o).take (n * es)) else none
    | _ => none
  | _ => none

def stepP (op : AOp) (e : AO → AV) (H : List Box) (base : Nat) : Ans :=
  match op with
  | .mov x => some ⟨e x, H, false, false⟩
  | .nilck x => match e x with
    | .ptr b o => some ⟨.ptr b o, H, false, false⟩
    | .eptr cs => some ⟨.eptr cs, H, false, false⟩
    | .fn f c => some ⟨.fn f c, H, false, false⟩
    | _ => none
  | .pick c a b => match e c with
    | .bool t => if t then some ⟨e a, H, false, false⟩ else some ⟨e b, H, false, false⟩
    | _ => none
  | .alloc zero => some ⟨.ptr H.length 0, H ++ [.cells zero], false, false⟩
  | .box x => (cellsOf (e x)).bind fun cs => some ⟨.ptr H.length 0, H ++ [.cells cs], false, false⟩
  | .newtok es => some ⟨.sl 0 [] (some H.length), H ++ [.tok 0 es], false, false⟩
  | .build zero parts => pure3 H ((fill e parts zero).bind fun cs => some (.agg cs))
  | .lit n zero parts => pure3 H ((fill (fun x => (e x).bare) parts (List.replicate n zero).flatten).bind fun cs => some (.sl n cs none))
  | .load s ag a => match e a with
    | .ptr b o => match H[b]? with
      | some (.cells cs) => pure3 H (rd s ag (cs.drop o))
      | _ => none
    | .eptr cs => pure3 H (rd s ag cs)
    | _ => none
  | .loadI s ag a => match e a with
    | .eptr cs => pure3 H (rd s ag cs)
    | _ => none
  | .store s a v => match e a with
    | .ptr b o => match H[b]? with
      | some (.cells cs) => (cellsOf (e v)).bind fun vs => if vs.length = s ∧ o + s ≤ cs.length then some ⟨.unk, H.set b (.cells (splice o vs cs)), !(under (max (b + 1) base) (AV.namesL vs)), decide (b < base)⟩ else none
      | _ => none
    | _ => none
  | .bin op x y => pure3 H (binOp op (e x) (e y))
  | .beq ne x y => match e x, e y with
    | .bool a, .bool b => some ⟨.bool ((a == b) != ne), H, false, false⟩
    | _, _ => none
  | .peq ne x => (isNilp (e x)).bind fun b => some ⟨.bool (b != ne), H, false, false⟩
  | .eqs ne x y => match e x, e y with
    | .agg cs, .agg ds => pure3 H ((eqCells cs ds).bind fun b => some (.bool (b != ne)))
    | _, _ => none
  | .un op x => pure3 H (unOp op (e x))
  | .conv k x => match e x with
    | .int _ n => some ⟨.int k (k.wrap n), H, false, false⟩
    | _ => none
  | .s2b x => match e x with
    | .str s => some ⟨.sl s.length (byteCells s) none, H, false, false⟩
    | _ => none
  | .b2s x => match e x with
    | .sl n cs _ => if cs.length = n then pure3 H ((bytesOf cs).bind fun s => some (.str s)) else none
    | .nils => some ⟨.str [], H, false, false⟩
    | _ => none
  | .mkarr _ zero l => match e l with
    | .int _ n => if 0 ≤ n ∧ n ≤ 1048576 then some ⟨.arr H.length 0 n.toNat, H ++ [.cells (List.replicate n.toNat zero).flatten], false, false⟩ else none
    | _ => none
  | .slice es x lo hi => if es = 0 then (match e x with
    | .str s => (bound e 0 lo).bind fun l => (bound e s.length hi).bind fun h =>
      if l ≤ h ∧ h ≤ s.length then some ⟨.str ((s.drop l).take (h - l)), H, false, false⟩ else none
    | _ => none) else match e x with
    | .sl n cs _ => (bound e 0 lo).bind fun l => (bound e n hi).bind fun h =>
      if l ≤ h ∧ h ≤ n then some ⟨.sl (h - l) ((cs.drop (l * es)).take ((h - l) * es)) none, H, false, false⟩ else none
    | .nils => (bound e 0 lo).bind fun l => (bound e 0 hi).bind fun h => if l = 0 ∧ h = 0 then some ⟨.nils, H, false, false⟩ else none
    | .arr b o n => (bound e 0 lo).bind fun l => (bound e n hi).bind fun h =>
      if l ≤ h ∧ h ≤ n then (if h = l then some ⟨.sl 0 [] none, H, false, false⟩ else some ⟨.arr b (o + l * es) (h - l), H, false, false⟩) else none
    | _ => none
  | .faddr off x => match e x with
    | .ptr b o => some ⟨.ptr b (o + off), H, false, false⟩
    | .eptr cs => some ⟨.eptr (cs.drop off), H, false, false⟩
    | _ => none
  | .field off s ag x => match e x with
    | .agg cs => pure3 H (rd s ag (cs.drop off))
    | _ => none
  | .iaddrA len es x i => match e i with
    | .int _ i => if inInt i len then (match e x with
      | .ptr b o => some ⟨.ptr b (o + i.toNat * es), H, false, false⟩
      | .eptr cs => some ⟨.eptr (cs.drop (i.toNat * es)), H, false, false⟩
      | _ => none) else none
    | _ => none
  | .iaddr es x i => match e i with
    | .int _ i => match e x with
      | .sl n cs _ => if inInt i n && decide (i.toNat * es < cs.length) then some ⟨.eptr (cs.drop (i.toNat * es)), H, false, false⟩ else none
      | .arr b o n => if inInt i n then some ⟨.ptr b (o + i.toNat * es), H, false, false⟩ else none
      | _ => none
    | _ => none
  | .idxA len es ag x i => match e i with
    | .int _ i => if inInt i len then (match e x with
      | .agg cs => pure3 H (rd es ag (cs.drop (i.toNat * es)))
      | _ => none) else none
    | _ => none
  | .idxS x i => match e x, e i with
    | .str s, .int _ i => if 0 ≤ i then pure3 H ((s[i.toNat]?).bind fun b => some (.int .u8 b.toNat)) else none
    | _, _ => none
  | .extr x i => match e x with
    | .tup vs => pure3 H (vs[i]?)
    | _ => none
  | .len str x => if isStr (e x) = str then pure3 H ((lenOf (e x)).bind fun n => some (.int .i64 n)) else none
  | .mx l => pure3 H (foldMax (l.map e))
  | .mn l => pure3 H (foldMin (l.map e))
  | .append es bytes s x => (srcOf H es (e x)).bind fun mx => match e s with
    | .sl n cs (some t) => match H[t]? with
      | some (.tok n' es') => if n' = n ∧ es' = es ∧ cs.length = n * es ∧ (n + mx.1) * (bytes + 1) ≤ 70368744177664 then some ⟨.sl (n + mx.1) (cs ++ AV.bareL mx.2) (some t), H.set t (.tok (n + mx.1) es), false, decide (t < base)⟩ else none
      | _ => none
    | .nils => if mx.1 * (bytes + 1) ≤ 70368744177664 then some ⟨.sl mx.1 (AV.bareL mx.2) (some H.length), H ++ [.tok mx.1 es], false, false⟩ else none
    | _ => none
  | .mkfn f cap => some ⟨.fn f (cap.map e), H, false, false⟩
  | .idxB x c => match e x, e c with
    | .str s, .int .u8 n => some ⟨.int .i64 (idxByte s n.toNat.toUInt8), H, false, false⟩
    | _, _ => none
  | _ => none
def asFn : AV → Option (Nat × List AV)
  | .fn g cap => some (g, cap)
  | _ => none
def stepOp (call : CallFn) (op : AOp) (e : AO → AV) (H : List Box) (base : Nat) : Ans :=
  match op with
  | .callC f args => callClosed call f (AV.bareL (args.map e)) H
  | .callR f args => callRead call f (AV.bareL (args.map e)) H
  | .callS f args => callOn call f (AV.bareL (args.map e)) H base
  | .callVC f args => (asFn (e f)).bind fun g => callClosed call g.1 (AV.bareL (args.map e) ++ g.2) H
  | .callVR f args => (asFn (e f)).bind fun g => callRead call g.1 (AV.bareL (args.map e) ++ g.2) H
  | .callVS f args => (asFn (e f)).bind fun g => callOn call g.1 (AV.bareL (args.map e) ++ g.2) H base
  | op => stepP op e H base

/-! ### Code -/
structure St where
  fr : Fr
  H : List Box
  base : Nat
  esc : Bool
  wr : Bool
inductive Ex where
  | nrm
  | exit (id : Nat)
  | ret
def put (fr : Fr) (d : Option Nat) (v : AV) : Fr := match d with
  | some d => (d, v) :: fr
  | none => fr
def afterOp (d : Option Nat) (s : St) (r : An) : Option St := some { fr := put s.fr d r.v, H := r.H, base := s.base, esc := s.esc || r.esc, wr := s.wr || r.wr }
def asBool' : AV → Option Bool
  | .bool b => some b
  | _ => none
mutual
def AItem.dsts : AItem → List Nat
  | .one d _ => d.toList
  | .sc _ _ l _ d => d :: dstsL l
def dstsL : List AItem → List Nat
  | [] => []
  | i :: l => AItem.dsts i ++ dstsL l
end
def scPut (d : Nat) (l : List AItem) (s : St) (y : Bool) : Option St := some { s with fr := (d, .bool y) :: ((dstsL l).map fun i => (i, AV.unk)) ++ s.fr }
def scEnd (r : AO) (t : St) : Option Bool := asBool' (ev t.fr r)
mutual
def runItem (call : CallFn) : AItem → St → Option St
  | .one d op, s => (stepOp call op (ev s.fr) s.H s.base).bind (afterOp d s)
  | .sc g b l r d, s => (asBool' (fget s.fr g)).bind fun x => (if x = b then (runOps call l s).bind (scEnd r) else some x).bind (scPut d l s)
def runOps (call : CallFn) : List AItem → St → Option St
  | [], s => some s
  | i :: l, s => (runItem call i s).bind (runOps call l)
end
def frNames (fr : Fr) : List Nat := (fr.map fun p => p.2.names).flatten
/-- What is made since there were n boxes is dropped where nothing leads to it. -/
def closedB (n : Nat) (H : List Box) : Bool := (H.take n).all fun b => under n b.names
def trunc (n : Nat) (live : List Nat) (s : St) : St :=
  let fr := clean live s.fr
  if s.esc = false then (if under n (frNames fr) then { s with fr := fr, H := s.H.take n } else { s with fr := fr })
  else if closedB n s.H = true ∧ under n (frNames fr) then { s with fr := fr, H := s.H.take n } else { s with fr := fr }
def resV (s : St) : ARes → Option AV
  | .tmp t => some (fget s.fr t)
  | .cell t sz ag => match fget s.fr t with
    | .ptr b o => match s.H[b]? with
      | some (.cells cs) => rd sz ag (cs.drop o)
      | _ => none
    | _ => none
def retL : List AV → AV
  | [v] => v.bare
  | vs => .tup (AV.bareL vs)
def leave (n : Nat) (res : List ARes) (s : St) : Ans :=
  (optAll (res.map (resV s))).bind fun vs => if s.esc = false ∧ under n (retL vs).names then some ⟨retL vs, s.H.take n, false, s.wr⟩ else some ⟨retL vs, s.H, s.esc, s.wr⟩
def argsFr (i : Nat) : List AV → Fr
  | [] => []
  | v :: vs => (i, v) :: argsFr (i + 1) vs
def atRet (n : Nat) (res : List ARes) : Ex × St → Ans
  | (.nrm, s) => leave n res s
  | (.ret, s) => leave n res s
  | (.exit _, _) => none
def runFun (go : ACode → St → Option (Ex × St)) (env : Nat → Option AFun) : CallFn := fun f args H =>
  (env f).bind fun fn => (go fn.body ⟨argsFr 0 args, H, H.length, false, false⟩).bind (atRet H.length fn.res)
def thenDo (f : St → Option (Ex × St)) : Ex × St → Option (Ex × St)
  | (.nrm, s) => f s
  | r => some r
def atBlock (n id : Nat) (live : List Nat) : Ex × St → Option (Ex × St)
  | (.nrm, t) => some (.nrm, trunc n live t)
  | (.exit i, t) => if i = id then some (.nrm, trunc n live t) else some (.exit i, t)
  | (.ret, t) => some (.ret, t)
def toEnd (live : List Nat) (s : St) : Option (Ex × St) := some (.nrm, { s with fr := clean live s.fr })
def exec (env : Nat → Option AFun) : Nat → ACode → St → Option (Ex × St)
  | 0, _, _ => none
  | k + 1, c, s => match c with
    | .skip => some (.nrm, s)
    | .ops l _ live => (runOps (runFun (exec env k) env) l s).bind (toEnd live)
    | .seq a b => (exec env k a s).bind (thenDo (exec env k b))
    | .cond c a b => match ev s.fr c with
      | .bool t => if t then exec env k a s else exec env k b s
      | _ => none
    | .block id live a => (exec env k a s).bind (atBlock s.H.length id live)
    | .loop live a => (exec env k a { s with fr := clean live s.fr }).bind (thenDo fun t => exec env k (.loop live a) (trunc s.H.length live t))
    | .exit id => some (.exit id, s)
    | .ret => some (.ret, s)
end Go.Proofs.Ytncnpgakflmibaa.Ai
