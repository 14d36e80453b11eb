/- An abstract machine over the given model: values told by content, memory of the call's own told block by block. Its definitions. No program in sight. -/
import Derived.Orders
import Derived.Below
import Derived.WalkKit
import Derived.KernelRfl
set_option linter.unusedVariables false
set_option linter.unusedSimpArgs false
namespace Go.Proofs.YtioefecijidgkaaAbs
open Go Go.RowKit

/-! ### Values -/
/-- A closed value of one cell: a plain one, or a slice that nobody writes any more, told by its elements' cells. -/
inductive CV where
  | v (x : Value)
  | imm (sz n : Nat) (c : Nat → Nat → CV)
/-- A cell: closed; a pointer into a block of the call's own (row i, cell j; ver: the state of the block for which it holds); a slice over such a block; a pointer to cells that nobody writes; a function with what it captured. -/
inductive AV where
  | c (x : CV)
  | ptr (b ver i j : Nat)
  | arr (sz b ver off len : Nat)
  | ip (n : Nat) (c : Nat → CV)
  | fn (f n : Nat) (caps : Nat → AV)
inductive Pt where
  | one (a : AV)
  | agg (l : List AV)
/-- What a slot holds. -/
inductive SV where
  | p (x : Pt)
  | tup (l : List Pt)
  | g (c : Bool) (s : SV)
  | any
instance : Inhabited AV := ⟨.c (.v (.tuple #[]))⟩
instance : Inhabited SV := ⟨.any⟩
abbrev Im := Addr → Option Value
/-- Where a block lies: its number (none: a slice that is still nil), how many elements it has room for, its state, an element's cells. -/
structure Plc where
  blk : Option Nat
  cap : Nat
  ver : Nat
  sz : Nat
inductive Blk where
  | dead
  | rows (t sz ver : Nat) (l : List (List AV)) (f : Bool)
  | sit (s : ByteArray) (pos : Nat)
def Blk.live : Blk → Bool
  | .dead => false
  | _ => true
def one1 : Value → Bool
  | .agg _ | .tuple _ => false
  | _ => true

/-! ### What they mean -/
def RelC (I : Im) : CV → Value → Prop
  | .v x, y => y = x ∧ one1 x = true
  | .imm sz n c, y => ∃ A cap, y = .slice A n cap ∧ n ≤ cap ∧ (n = 0 ∨ ∃ ad, A = some ad ∧ ∀ i, i < n → ∀ j, j < sz → ∃ x, I (ad.add (i * sz + j)) = some x ∧ RelC I (c i j) x)
def RelA (I : Im) (σ : List Plc) : AV → Value → Prop
  | .c x, y => RelC I x y
  | .ptr b ver i j, y => one1 y = true ∧ ∃ p, σ[b]? = some p ∧ ver ≤ p.ver ∧ (p.ver = ver → ∃ g, p.blk = some g ∧ y = .pointer (some ⟨g, i * p.sz + j, none⟩))
  | .arr sz b ver off len, y => one1 y = true ∧ ∃ p, σ[b]? = some p ∧ ver ≤ p.ver ∧ (p.ver = ver → p.sz = sz ∧ off + len ≤ p.cap ∧ y = .slice (p.blk.map fun g => ⟨g, off * sz, none⟩) len (p.cap - off))
  | .ip n c, y => ∃ ad, y = .pointer (some ad) ∧ ∀ k, k < n → ∃ x, I (ad.add k) = some x ∧ RelC I (c k) x
  | .fn f n caps, y => ∃ cs : Array Value, y = .func (.func f) #[] cs ∧ cs.size = n ∧ ∀ (k : Nat) (x : Value), cs[k]? = some x → RelA I σ (caps k) x
def RelL (I : Im) (σ : List Plc) (l : List AV) (cs : List Value) : Prop := cs.length = l.length ∧ ∀ (k : Nat) (a : AV) (x : Value), l[k]? = some a → cs[k]? = some x → RelA I σ a x
def RelP (I : Im) (σ : List Plc) : Pt → Value → Prop
  | .one a, y => RelA I σ a y
  | .agg l, y => ∃ cs : Array Value, y = .agg cs ∧ RelL I σ l cs.toList
def RelS (I : Im) (σ : List Plc) : SV → Value → Prop
  | .p x, y => RelP I σ x y
  | .tup l, y => ∃ vs : Array Value, y = .tuple vs ∧ vs.size = l.length ∧ ∀ (k : Nat) (q : Pt) (x : Value), l[k]? = some q → vs[k]? = some x → RelP I σ q x
  | .g c s, y => (c = true → RelS I σ s y) ∧ (c = false → y = undef)
  | .any, _ => True
def RelB (I : Im) (σ : List Plc) (w : World) (p : Plc) : Blk → Prop
  | .dead => True
  | .rows t sz ver l f => (f = true → p.cap = l.length) ∧ p.sz = sz ∧ p.ver = ver ∧ l.length ≤ p.cap ∧ p.cap ≤ maxLen ∧ (∀ (i : Nat) (r : List AV), l[i]? = some r → r.length = sz) ∧
      match p.blk with
      | none => p.cap = 0
      | some g => ∃ cs : Array Value, w.heap[g]? = some (.cells cs t (0, 0)) ∧ cs.size = p.cap * sz ∧ (∀ (k : Nat) (x : Value), cs[k]? = some x → one1 x = true) ∧ ∀ (i : Nat) (r : List AV), l[i]? = some r → ∀ (j : Nat) (a : AV), r[j]? = some a → ∃ x, cs[i * sz + j]? = some x ∧ RelA I σ a x
  | .sit s pos => p.ver = 0 ∧ ∃ g, p.blk = some g ∧ w.heap[g]? = some (.stringIter s pos)
structure Mem (I : Im) (σ : List Plc) (M : List Blk) (w : World) : Prop where
  len : σ.length = M.length
  blk : ∀ (b : Nat) (x : Blk) (p : Plc), M[b]? = some x → σ[b]? = some p → RelB I σ w p x
  inj : ∀ (b b' : Nat) (x x' : Blk) (p p' : Plc) (g : Nat), M[b]? = some x → M[b']? = some x' → x.live = true → x'.live = true → σ[b]? = some p → σ[b']? = some p' → p.blk = some g → p'.blk = some g → b = b'
  ap : ∀ (b : Nat) (x : Blk) (p : Plc) (g : Nat), M[b]? = some x → x.live = true → σ[b]? = some p → p.blk = some g → ∀ a : Addr, a.block = g → I a = none
  imm : ∀ a x, I a = some x → w.cell? a = some x
def ExtI (I I' : Im) : Prop := ∀ a x, I a = some x → I' a = some x
def ExtP (σ σ' : List Plc) : Prop := ∀ (b : Nat) (p : Plc), σ[b]? = some p → ∃ p' : Plc, σ'[b]? = some p' ∧ p.ver ≤ p'.ver ∧ (p'.ver = p.ver → p' = p)
/-- Which blocks of the world are a memory's. -/
def Has (σ : List Plc) (M : List Blk) (g : Nat) : Prop := ∃ (b : Nat) (x : Blk) (p : Plc), M[b]? = some x ∧ x.live = true ∧ σ[b]? = some p ∧ p.blk = some g
/-- The world has grown, and has changed in blocks of S alone. -/
structure Keep (S : Nat → Prop) (w w' : World) : Prop where
  os : w'.os = w.os
  tape : w'.tape = w.tape
  output : w'.output = w.output
  size : w.heap.size ≤ w'.heap.size
  block : ∀ k, k < w.heap.size → ¬ S k → w'.heap[k]? = w.heap[k]?

/-! ### Operations -/
inductive Opd where
  | t (i : Nat)
  | k (x : Pt)
inductive O where
  | mv (x : Opd)
  | pick (c a b : Opd)
  | alloc (t sz : Nat) (z : List Value)
  | box (t sz : Nat) (x : Opd)
  | bld (z : List Value) (parts : List (Nat × Nat × Opd))
  | bsl (t sz len : Nat) (z : List Value) (parts : List (Nat × Opd))
  | ld (agg : Bool) (sz : Nat) (a : Opd)
  | st (sz : Nat) (a x : Opd)
  | nilck (x : Opd)
  | bin (op : BinOp) (x y : Opd)
  | un (op : UnOp) (x : Opd)
  | cvi (k : IntKind) (x : Opd)
  | mkf (f : Nat) (caps : List Opd)
  | slc (sz : Nat) (x : Opd) (lo hi : Option Opd)
  | sls (x : Opd) (lo hi : Option Opd)
  | fa (off : Nat) (x : Opd)
  | fld (agg : Bool) (off sz : Nat) (x : Opd)
  | ia (sz : Nat) (x i : Opd)
  | ix (x i : Opd)
  | ex (x : Opd) (i : Nat)
  | len (x : Opd)
  | lens (x : Opd)
  | mn (x y : Opd)
  | mx (x y : Opd)
  | app (t sz bytes : Nat) (z : List Value) (x y : Opd)
  | cap (x : Opd)
  | cpy (sz : Nat) (x y : Opd)
  | clr (sz : Nat) (z : List Value) (x : Opd)
  | s3 (x : Opd) (lo hi mx : Option Opd)
  | apz (t sz bytes : Nat) (z : List Value) (x k : Opd)
  | aps (t : Nat) (x y : Opd)
  | b2s (x : Opd)
  | rng (x : Opd)
  | nxt (x : Opd)
  | mks (t sz bytes : Nat) (z : List Value) (x : Opd)
  | eqa (ks : List Nat) (neg : Bool) (x y : Opd)
  | eqb (neg : Bool) (x y : Opd)
  | call (f : Opd) (args : List Opd)
structure OpL where
  dst : Option Nat
  op : O
  gd : Option (Nat × Bool)
inductive C where
  | skip
  | reg (d : Bool) (ops : List OpL)
  | rgx (T : List (List Nat)) (ops : List OpL)
  | seq (a b : C)
  | cond (x : Opd) (a b : C)
  | block (id : Nat) (c : C)
  | loop (c : C)
  | exit (id : Nat)
  | ret
  | scope (c : C)
structure St where
  env : Nat → SV
  M : List Blk
def upd (e : Nat → SV) (i : Nat) (v : SV) : Nat → SV := fun j => if j = i then v else e j
def put (e : Nat → SV) (d : Option Nat) (v : SV) : Nat → SV :=
  match d with
  | some i => upd e i v
  | none => e
/-- What is behind a condition, where the condition ctx holds. -/
def strip (ctx : Bool) : SV → SV
  | .g c s => if (!ctx || c) = true then strip ctx s else .g c s
  | s => s
def raw (e : Nat → SV) : Opd → SV
  | .t i => e i
  | .k x => .p x
def fillL (l : List AV) : Nat → List AV → List AV
  | _, [] => l
  | off, a :: as => fillL (l.set off a) (off + 1) as
def cellsUp (c : Nat → CV) (k : Nat) : Nat → List AV
  | 0 => []
  | n + 1 => .c (c k) :: cellsUp c (k + 1) n
def Pt.cells : Pt → List AV
  | .one a => [a]
  | .agg l => l
def zc (z : List Value) : List AV := z.map fun v => .c (.v v)
def bcond : Bool → Bool → Bool → Bool
  | t, x, y => bif t then x else y
/-- Two plain values under an operator: the result, and what must hold. -/
def binV (op : BinOp) : Value → Value → Option (Value × Prop)
  | .int k a, .int k' b =>
      match op with
      | .shl => some (.int k (k.wrap (a * 2 ^ (min b.toNat k.bits))), 0 ≤ b)
      | .shr => some (.int k (a.fdiv (2 ^ (min b.toNat k.bits))), 0 ≤ b)
      | op => if k = k' then
        match op with
        | .and => some (.int k (k.wrap ((BitVec.ofInt k.bits a &&& BitVec.ofInt k.bits b).toNat : Nat)), True)
        | .or => some (.int k (k.wrap ((BitVec.ofInt k.bits a ||| BitVec.ofInt k.bits b).toNat : Nat)), True)
        | .xor => some (.int k (k.wrap ((BitVec.ofInt k.bits a ^^^ BitVec.ofInt k.bits b).toNat : Nat)), True)
        | .andNot => some (.int k (k.wrap ((BitVec.ofInt k.bits a &&& ~~~BitVec.ofInt k.bits b).toNat : Nat)), True)
        | .add => some (.int k (k.wrap (a + b)), True)
        | .sub => some (.int k (k.wrap (a - b)), True)
        | .mul => some (.int k (k.wrap (a * b)), True)
        | .quo => some (.int k (k.wrap (a.tdiv b)), b ≠ 0)
        | .rem => some (.int k (a.tmod b), b ≠ 0)
        | .eql => some (.bool (a == b), True)
        | .neq => some (.bool (a != b), True)
        | .lss => some (.bool (decide (a < b)), True)
        | .leq => some (.bool (decide (a ≤ b)), True)
        | .gtr => some (.bool (decide (a > b)), True)
        | .geq => some (.bool (decide (a ≥ b)), True)
        | _ => none
        else none
  | .string a, .string b =>
      match op with
      | .add => some (.string (a ++ b), a.size + b.size ≤ 9223372036854775807)
      | .eql => some (.bool (a.toList == b.toList), True)
      | .neq => some (.bool (!(a.toList == b.toList)), True)
      | .lss => some (.bool (Op.bytesLess a.toList b.toList), True)
      | .leq => some (.bool (Op.bytesLess a.toList b.toList || a.toList == b.toList), True)
      | .gtr => some (.bool (!(Op.bytesLess a.toList b.toList || a.toList == b.toList)), True)
      | .geq => some (.bool (!(Op.bytesLess a.toList b.toList)), True)
      | _ => none
  | _, _ => none
def unV (op : UnOp) : Value → Option Value
  | .int k n => match op with
      | .neg => some (.int k (k.wrap (0 - n)))
      | _ => none
  | .bool b => match op with
      | .not => some (.bool (!b))
      | _ => none
  | _ => none
def intOfS : SV → Option Int
  | .p (.one (.c (.v (.int _ n)))) => some n
  | _ => none
/-- Is the block b in the state ver: its elements. -/
def rowsAt (M : List Blk) (b ver : Nat) : Option (Nat × List (List AV) × Prop) :=
  match M[b]? with
  | some (.rows _ sz ver' l _) => some (sz, l, ver' = ver)
  | _ => none
def fillParts (vl : Opd → SV) : List AV → List (Nat × Nat × Opd) → Option (List AV × Prop)
  | l, [] => some (l, True)
  | l, (off, sz, x) :: ps =>
    match vl x with
    | .p q => (fillParts vl (fillL l off q.cells) ps).map fun r => (r.1, (q.cells.length = sz ∧ off + sz ≤ l.length) ∧ r.2)
    | _ => none
def fillRows (vl : Opd → SV) (sz : Nat) : List (List AV) → List (Nat × Opd) → Option (List (List AV) × Prop)
  | l, [] => some (l, True)
  | l, (i, x) :: ps =>
    match vl x with
    | .p q => (fillRows vl sz (l.set i q.cells) ps).map fun r => (r.1, (q.cells.length = sz ∧ i < l.length) ∧ r.2)
    | _ => none
def capsOf (vl : Opd → SV) : List Opd → Option (List AV)
  | [] => some []
  | x :: xs =>
    match vl x with
    | .p (.one a) => (capsOf vl xs).map (a :: ·)
    | _ => none
def bnd (vl : Opd → SV) (d : Int) : Option Opd → Option Int
  | none => some d
  | some x => intOfS (vl x)
def immRows (c : Nat → Nat → CV) (sz n : Nat) : List (List AV) := (List.range n).map fun i => cellsUp (c i) 0 sz
/-- What is appended: its elements' cells. -/
def srcRows (M : List Blk) (sz : Nat) : SV → Option (List (List AV) × Nat × Prop)
  | .p (.one (.c (.imm sz' n c))) => some (immRows c sz n, n, sz' = sz)
  | .p (.one (.c (.v (.slice none 0 0)))) => some ([], 0, True)
  | .p (.one (.arr sz' b ver off len)) =>
    match rowsAt M b ver with
    | some (_, l, hv) => some ((l.drop off).take len, len, sz' = sz ∧ hv ∧ off + len ≤ l.length)
    | none => none
  | _ => none
/-- Two plain cells of a kind: are they alike? -/
def eq1 : Nat → AV → AV → Option Bool
  | 0, .c (.v (.bool a)), .c (.v (.bool b)) => some (a == b)
  | 1, .c (.v (.int k a)), .c (.v (.int k' b)) => if k = k' then some (a == b) else none
  | 2, .c (.v (.string a)), .c (.v (.string b)) => some (a.toList == b.toList)
  | _, _, _ => none
/-- Two rows of plain cells: are they alike? -/
def eqCells : List Nat → List AV → List AV → Option Bool
  | [], [], [] => some true
  | k :: ks, x :: l, y :: l' =>
    match eq1 k x y, eqCells ks l l' with
    | some u, some b => some (u && b)
    | _, _ => none
  | _, _, _ => none
def byteRow (b : UInt8) : List AV := [.c (.v (.int .u8 b.toNat))]
def rowsBytes : List (List AV) → Option (List UInt8)
  | [] => some []
  | [.c (.v (.int .u8 n))] :: l => (rowsBytes l).map (UInt8.ofNat n.toNat :: ·)
  | _ => none
/-- What an operation yields, what the memory is then, and what must hold for it. -/
def isNilK : Opd → Bool
  | .k (.one (.c (.v (.slice none 0 0)))) => true
  | _ => false
def out (e : Nat → SV) (M : List Blk) (ctx : Bool) : O → Option (SV × List Blk × Prop)
  | .mv x => some (strip ctx (raw e x), M, True)
  | .pick c a b =>
    match strip ctx (raw e c) with
    | .p (.one (.c (.v (.bool t)))) =>
      match strip (ctx && t) (raw e a), strip (ctx && !t) (raw e b) with
      | .p (.one (.c (.v (.bool x)))), .p (.one (.c (.v (.bool y)))) => some (.p (.one (.c (.v (.bool (bcond t x y))))), M, True)
      | _, _ => none
    | _ => none
  | .alloc t sz z => some (.p (.one (.ptr M.length 0 0 0)), M ++ [.rows t sz 0 [zc z] true], True)
  | .box t sz x =>
    match strip ctx (raw e x) with
    | .p q => some (.p (.one (.ptr M.length 0 0 0)), M ++ [.rows t sz 0 [q.cells] true], q.cells.length = sz)
    | _ => none
  | .bld z parts =>
    match fillParts (fun x => strip ctx (raw e x)) (zc z) parts with
    | some (l, c) => some (.p (.agg l), M, c)
    | none => none
  | .bsl t sz len z parts =>
    match fillRows (fun x => strip ctx (raw e x)) sz (List.replicate len (zc z)) parts with
    | some (l, c) => some (.p (.one (.arr sz M.length 0 0 len)), M ++ [.rows t sz 0 l true], c)
    | none => none
  | .ld agg sz a =>
    match strip ctx (raw e a) with
    | .p (.one (.ip n c)) => some (.p (if agg = true then .agg (cellsUp c 0 sz) else .one (.c (c 0))), M, sz ≤ n ∧ (agg = false → sz = 1))
    | .p (.one (.ptr b ver i j)) =>
      match rowsAt M b ver with
      | some (_, l, hv) => some (.p (if agg = true then .agg (((l.getD i []).drop j).take sz) else .one ((l.getD i []).getD j default)), M, hv ∧ i < l.length ∧ j + sz ≤ (l.getD i []).length ∧ (agg = false → sz = 1))
      | none => none
    | _ => none
  | .st sz a x =>
    match strip ctx (raw e a), strip ctx (raw e x) with
    | .p (.one (.ptr b ver i j)), .p q =>
      match M[b]? with
      | some (.rows t sz' ver' l f) => some (.any, M.set b (.rows t sz' ver' (l.set i (fillL (l.getD i []) j q.cells)) f), ver' = ver ∧ i < l.length ∧ j + sz ≤ (l.getD i []).length ∧ q.cells.length = sz)
      | _ => none
    | _, _ => none
  | .nilck x =>
    match strip ctx (raw e x) with
    | .p (.one (.ptr b ver i j)) =>
      match rowsAt M b ver with
      | some (_, l, hv) => some (.p (.one (.ptr b ver i j)), M, hv ∧ i < l.length)
      | none => none
    | .p (.one (.ip n c)) => some (.p (.one (.ip n c)), M, True)
    | _ => none
  | .bin op x y =>
    match strip ctx (raw e x), strip ctx (raw e y) with
    | .p (.one (.c (.v a))), .p (.one (.c (.v b))) =>
      match binV op a b with
      | some (r, c) => some (.p (.one (.c (.v r))), M, c)
      | none => none
    | _, _ => none
  | .un op x =>
    match strip ctx (raw e x) with
    | .p (.one (.c (.v a))) =>
      match unV op a with
      | some r => some (.p (.one (.c (.v r))), M, True)
      | none => none
    | _ => none
  | .cvi k x =>
    match strip ctx (raw e x) with
    | .p (.one (.c (.v (.int _ n)))) => some (.p (.one (.c (.v (.int k (k.wrap n))))), M, True)
    | _ => none
  | .mkf f caps =>
    match capsOf (fun x => strip ctx (raw e x)) caps with
    | some l => some (.p (.one (.fn f l.length (fun k => l.getD k default))), M, True)
    | none => none
  | .slc sz x lo hi =>
    match strip ctx (raw e x) with
    | .p (.one (.c (.imm sz' n c))) =>
      match bnd (fun x => strip ctx (raw e x)) 0 lo, bnd (fun x => strip ctx (raw e x)) n hi with
      | some l, some h => some (.p (.one (.c (.imm sz' (h.toNat - l.toNat) (fun i j => c (l.toNat + i) j)))), M, sz' = sz ∧ 0 ≤ l ∧ l ≤ h ∧ h ≤ n)
      | _, _ => none
    | .p (.one (.arr sz' b ver off len)) =>
      match bnd (fun x => strip ctx (raw e x)) 0 lo, bnd (fun x => strip ctx (raw e x)) len hi, rowsAt M b ver with
      | some l, some h, some (_, rs, hv) => some (.p (.one (if l = h ∧ l ≠ 0 then .c (.imm sz' 0 (fun _ _ => .v (.tuple #[]))) else .arr sz' b ver (off + l.toNat) (h.toNat - l.toNat))), M, sz' = sz ∧ hv ∧ 0 ≤ l ∧ l ≤ h ∧ (h ≤ len ∨ off + h.toNat ≤ rs.length))
      | _, _, _ => none
    | _ => none
  | .sls x lo hi =>
    match strip ctx (raw e x) with
    | .p (.one (.c (.v (.string s)))) =>
      match bnd (fun x => strip ctx (raw e x)) 0 lo, bnd (fun x => strip ctx (raw e x)) s.size hi with
      | some l, some h => some (.p (.one (.c (.v (.string (s.extract l.toNat h.toNat))))), M, 0 ≤ l ∧ l ≤ h ∧ h ≤ s.size)
      | _, _ => none
    | _ => none
  | .fa off x =>
    match strip ctx (raw e x) with
    | .p (.one (.ptr b ver i j)) =>
      match rowsAt M b ver with
      | some (_, l, hv) => some (.p (.one (.ptr b ver i (j + off))), M, hv ∧ i < l.length)
      | none => none
    | .p (.one (.ip n c)) => some (.p (.one (.ip (n - off) (fun k => c (off + k)))), M, off ≤ n)
    | _ => none
  | .fld agg off sz x =>
    match strip ctx (raw e x) with
    | .p (.agg l) => some (.p (if agg = true then .agg ((l.drop off).take sz) else .one (l.getD off default)), M, off + sz ≤ l.length ∧ (agg = false → sz = 1))
    | _ => none
  | .ia sz x i =>
    match strip ctx (raw e x), intOfS (strip ctx (raw e i)) with
    | .p (.one (.c (.imm sz' n c))), some i => some (.p (.one (.ip sz (c i.toNat))), M, sz' = sz ∧ 0 ≤ i ∧ i < n)
    | .p (.one (.arr sz' b ver off len)), some i =>
      match rowsAt M b ver with
      | some (_, l, hv) => some (.p (.one (.ptr b ver (off + i.toNat) 0)), M, sz' = sz ∧ hv ∧ 0 ≤ i ∧ i < len ∧ 0 < sz)
      | none => none
    | _, _ => none
  | .ix x i =>
    match strip ctx (raw e x), intOfS (strip ctx (raw e i)) with
    | .p (.one (.c (.v (.string s)))), some i => some (.p (.one (.c (.v (.int .u8 ((s.data.toList.getD i.toNat 0).toNat : Nat))))), M, 0 ≤ i ∧ i < s.size)
    | _, _ => none
  | .ex x i =>
    match strip ctx (raw e x) with
    | .tup l => some (.p (l.getD i (.one default)), M, i < l.length)
    | _ => none
  | .lens x =>
    match strip ctx (raw e x) with
    | .p (.one (.c (.v (.string s)))) => some (.p (.one (.c (.v (.int .i64 s.size)))), M, True)
    | _ => none
  | .len x =>
    match strip ctx (raw e x) with
    | .p (.one (.c (.v (.slice none 0 0)))) => some (.p (.one (.c (.v (.int .i64 0)))), M, True)
    | .p (.one (.c (.imm _ n _))) => some (.p (.one (.c (.v (.int .i64 n)))), M, True)
    | .p (.one (.arr _ b ver _ len)) =>
      match rowsAt M b ver with
      | some (_, l, hv) => some (.p (.one (.c (.v (.int .i64 len)))), M, hv)
      | none => none
    | _ => none
  | .mn x y =>
    match strip ctx (raw e x), strip ctx (raw e y) with
    | .p (.one (.c (.v (.int k a)))), .p (.one (.c (.v (.int _ b)))) => some (.p (.one (.c (.v (.int k (if b < a then b else a))))), M, True)
    | _, _ => none
  | .mx x y =>
    match strip ctx (raw e x), strip ctx (raw e y) with
    | .p (.one (.c (.v (.int k a)))), .p (.one (.c (.v (.int _ b)))) => some (.p (.one (.c (.v (.int k (if a < b then b else a))))), M, True)
    | _, _ => none
  | .app t sz bytes z x y =>
    match strip ctx (raw e x) with
    | .p (.one (.arr sz' b ver off len)) =>
      match M[b]?, srcRows M sz (strip ctx (raw e y)) with
      | some (.rows t' sz2 ver' l f), some (rs, m, cy) =>
        if off = 0 ∧ len = l.length then some (.p (.one (.arr sz b (ver + 1) 0 (len + m))), M.set b (.rows t sz (ver + 1) (l ++ rs) false), sz' = sz ∧ sz2 = sz ∧ t' = t ∧ ver' = ver ∧ (len + m) * bytes ≤ 140737488355328 ∧ cy)
        else some (.p (.one (.arr sz b ver off (len + m))), M.set b (.rows t' sz2 ver' (l.take (off + len) ++ rs ++ l.drop (off + len + m)) f), sz' = sz ∧ sz2 = sz ∧ ver' = ver ∧ off + len + m ≤ l.length ∧ cy)
      | _, _ => none
    | _ => none
  | .cap x =>
    match strip ctx (raw e x) with
    | .p (.one (.arr _ b ver off len)) =>
      match M[b]? with
      | some (.rows _ _ ver' l true) => some (.p (.one (.c (.v (.int .i64 ((l.length - off : Nat) : Int))))), M, ver' = ver)
      | _ => none
    | _ => none
  | .cpy sz x y =>
    match strip ctx (raw e x) with
    | .p (.one (.arr sz' b ver off len)) =>
      match M[b]?, srcRows M sz (strip ctx (raw e y)) with
      | some (.rows t sz2 ver' l f), some (rs, m, cy) =>
        some (.p (.one (.c (.v (.int .i64 (min m len : Nat))))), M.set b (.rows t sz2 ver' (l.take off ++ rs.take len ++ l.drop (off + min m len)) f), sz' = sz ∧ sz2 = sz ∧ ver' = ver ∧ off + min m len ≤ l.length ∧ cy)
      | _, _ => none
    | _ => none
  | .clr sz z x =>
    match strip ctx (raw e x) with
    | .p (.one (.arr sz' b ver off len)) =>
      match M[b]? with
      | some (.rows t sz2 ver' l f) => some (.any, M.set b (.rows t sz2 ver' (l.take off ++ List.replicate len (zc z) ++ l.drop (off + len)) f), sz' = sz ∧ sz2 = sz ∧ ver' = ver ∧ off + len ≤ l.length)
      | _ => none
    | .p (.one (.c (.imm _ n _))) => some (.any, M, n = 0)
    | _ => none
  | .s3 x lo hi mx =>
    match strip ctx (raw e x) with
    | .p (.one (.arr _ b ver _ len)) =>
      match bnd (fun x => strip ctx (raw e x)) 0 lo, bnd (fun x => strip ctx (raw e x)) len hi, bnd (fun x => strip ctx (raw e x)) len mx, rowsAt M b ver with
      | some l, some h, some m, some (_, _, hv) => some (.any, M, hv ∧ 0 ≤ l ∧ l ≤ h ∧ h ≤ m ∧ m ≤ len)
      | _, _, _, _ => none
    | .p (.one (.c (.imm _ len _))) =>
      match bnd (fun x => strip ctx (raw e x)) 0 lo, bnd (fun x => strip ctx (raw e x)) len hi, bnd (fun x => strip ctx (raw e x)) len mx with
      | some l, some h, some m => some (.any, M, 0 ≤ l ∧ l ≤ h ∧ h ≤ m ∧ m ≤ len)
      | _, _, _ => none
    | _ => none
  | .apz t sz bytes z x k =>
    match strip ctx (raw e x), intOfS (strip ctx (raw e k)) with
    | .p (.one (.arr sz' b ver off len)), some k =>
      match M[b]? with
      | some (.rows t' sz2 ver' l true) => some (.p (.one (.arr sz M.length 0 0 (len + k.toNat))), M ++ [.rows t sz 0 ((l.drop off).take len ++ List.replicate k.toNat (zc z)) false], sz' = sz ∧ sz2 = sz ∧ ver' = ver ∧ off + len ≤ l.length ∧ l.length < off + len + k.toNat ∧ 0 < k ∧ (len + k.toNat) * bytes ≤ 140737488355328)
      | _ => none
    | _, _ => none
  | .aps t x y =>
    match strip ctx (raw e x), strip ctx (raw e y) with
    | .p (.one (.arr sz' b ver off len)), .p (.one (.c (.v (.string s)))) =>
      match M[b]? with
      | some (.rows t' sz2 ver' l f) => some (.p (.one (.arr 1 b (ver + 1) 0 (len + s.size))), M.set b (.rows t 1 (ver + 1) (l ++ s.data.toList.map byteRow) false), sz' = 1 ∧ sz2 = 1 ∧ t' = t ∧ ver' = ver ∧ off = 0 ∧ len = l.length ∧ len + s.size ≤ 140737488355328)
      | _ => none
    | _, _ => none
  | .b2s x =>
    match srcRows M 1 (strip ctx (raw e x)) with
    | some (rs, _, cy) =>
      match rowsBytes rs with
      | some bs => some (.p (.one (.c (.v (.string ⟨bs.toArray⟩)))), M, cy)
      | none => none
    | none => none
  | .rng x =>
    match strip ctx (raw e x) with
    | .p (.one (.c (.v (.string s)))) => some (.p (.one (.ptr M.length 0 0 0)), M ++ [.sit s 0], True)
    | _ => none
  | .nxt x =>
    match strip ctx (raw e x) with
    | .p (.one (.ptr b ver i j)) =>
      match M[b]? with
      | some (.sit s pos) =>
        if pos < s.size then some (.tup [.one (.c (.v (.bool true))), .one (.c (.v (.int .i64 pos))), .one (.c (.v (.int .i32 (Utf8.decode s pos).1)))], M.set b (.sit s (pos + (Utf8.decode s pos).2)), ver = 0 ∧ i = 0 ∧ j = 0)
        else some (.tup [.one (.c (.v (.bool false)))], M, ver = 0 ∧ i = 0 ∧ j = 0)
      | _ => none
    | _ => none
  | .mks t sz bytes z x =>
    match strip ctx (raw e x) with
    | .p (.one (.c (.v (.int _ n)))) => some (.p (.one (.arr sz M.length 0 0 n.toNat)), M ++ [.rows t sz 0 (List.replicate n.toNat (zc z)) true], 0 ≤ n ∧ n.toNat * bytes ≤ 140737488355328)
    | _ => none
  | .eqa ks neg x y =>
    match strip ctx (raw e x), strip ctx (raw e y) with
    | .p (.agg l), .p (.agg l') =>
      match eqCells ks l l' with
      | some b => some (.p (.one (.c (.v (.bool (xor neg b))))), M, True)
      | none => none
    | _, _ => none
  | .eqb neg x y =>
    match strip ctx (raw e x), strip ctx (raw e y) with
    | .p (.one (.c (.v (.bool a)))), .p (.one (.c (.v (.bool b)))) => if isNilK y then none else some (.p (.one (.c (.v (.bool (xor neg (a == b)))))), M, True)
    | .p (.one (.c (.imm _ n _))), _ => if isNilK y then some (.p (.one (.c (.v (.bool neg)))), M, 0 < n) else none
    | .p (.one (.c (.v (.slice none 0 0)))), _ => if isNilK y then some (.p (.one (.c (.v (.bool (!neg))))), M, True) else none
    | _, _ => none
  | .call _ _ => none

/-! ### Which code is which -/
def ptOf : Value → Option Pt
  | .agg cs => if cs.toList.all one1 then some (.agg (zc cs.toList)) else none
  | .tuple _ => none
  | v => some (.one (.c (.v v)))
def compX : Operand → Option Opd
  | .tmp t => some (.t t)
  | .const v => (ptOf v).map .k
  | .func f => some (.k (.one (.fn f 0 fun _ => default)))
  | .global _ => none
def compXs : List Operand → Option (List Opd)
  | [] => some []
  | x :: xs => (compX x).bind fun y => (compXs xs).map (y :: ·)
def compXo : Option Operand → Option (Option Opd)
  | none => some none
  | some x => (compX x).map some
def sizeT (P : Program) (t : TypeId) : Option Nat := (P.info? t).map (·.size)
def aggT (P : Program) (t : TypeId) : Option Bool := (P.underlying t).map fun | .struct _ | .array _ _ => true | _ => false
def zeroT (P : Program) (t : TypeId) : Option (List Value) := (P.info? t).bind fun i => i.zero.bind fun z => if z.cells.toList.all one1 && z.cells.size == i.size then some z.cells.toList else none
def elemT (P : Program) (t : TypeId) : Option Nat := (P.underlying t).bind fun | .slice e => some e | _ => none
def fieldsT (P : Program) (t : TypeId) : Option (Array Field) := (P.underlying t).bind fun | .struct fs => some fs | _ => none
def partsS (P : Program) (fs : Array Field) : List (Nat × Operand) → Option (List (Nat × Nat × Opd))
  | [] => some []
  | (i, x) :: ps => (fs[i]?).bind fun f => (sizeT P f.type).bind fun sz => (compX x).bind fun y => (partsS P fs ps).map ((f.offset, sz, y) :: ·)
def partsA : List (Nat × Operand) → Option (List (Nat × Opd))
  | [] => some []
  | (i, x) :: ps => (compX x).bind fun y => (partsA ps).map ((i, y) :: ·)
def isStrT (P : Program) (t : TypeId) : Bool := match P.underlying t with | some .string => true | _ => false
def isIntT (P : Program) (t : TypeId) : Option IntKind := (P.underlying t).bind fun | .int k => some k | _ => none
/-- Bytes. -/
def bytesT (P : Program) (t : TypeId) : Bool := match elemT P t with | some e => (match isIntT P e with | some .u8 => sizeT P e == some 1 | _ => false) | none => false
def leafK (P : Program) (t : TypeId) : Option Nat := (P.underlying t).bind fun | .bool => some 0 | .int _ => some 1 | .string => some 2 | _ => none
def flatG (P : Program) (g : TypeId → Option (List Nat)) : Nat → List Field → Option (List Nat)
  | _, [] => some []
  | i, f :: fs => (g f.type).bind fun ks => if f.name != "_" && f.offset == i && sizeT P f.type == some ks.length && decide (0 < ks.length) then (flatG P g (i + ks.length) fs).map (ks ++ ·) else none
def flatT (P : Program) : Nat → TypeId → Option (List Nat)
  | 0, t => (leafK P t).bind fun k => if sizeT P t == some 1 && aggT P t == some false then some [k] else none
  | n + 1, t =>
    match fieldsT P t with
    | some fs => if !P.stoodInHeld t && aggT P t == some true then flatG P (flatT P n) 0 fs.toList else none
    | none => (leafK P t).bind fun k => if sizeT P t == some 1 && aggT P t == some false then some [k] else none
def isSlT (P : Program) (t : TypeId) : Bool := match P.underlying t with | some (.slice _) => true | _ => false
def isBoolT (P : Program) (t : TypeId) : Bool := match P.underlying t with | some .bool => true | _ => false
/-- Plain fields, also those of structs in structs: of which kinds. -/
def flatS (P : Program) (t : TypeId) : Option (List Nat) := (fieldsT P t).bind fun fs => if !P.stoodInHeld t && !P.eqGuardType P.depth t then flatG P (flatT P 2) 0 fs.toList else none
def binC : Bool → Option (List Nat) → BinOp → Opd → Opd → O
  | true, _, .eql, x, y => .eqb false x y
  | true, _, .neq, x, y => .eqb true x y
  | false, some ks, .eql, x, y => .eqa ks false x y
  | false, some ks, .neq, x, y => .eqa ks true x y
  | _, _, op, x, y => .bin op x y
def sameX : Opd → Opd → Bool
  | .t i, .t j => i == j
  | .k (.one (.c (.v (.int _ n)))), .k (.one (.c (.v (.int _ m)))) => n == m
  | _, _ => false
/-- The abstract operation of a given one, if there is one. -/
def compO (P : Program) : Op → Option O
  | .move x => (compX x).map .mv
  | .assign x => (compX x).map .mv
  | .pick c a b => (compX c).bind fun c => (compX a).bind fun a => (compX b).map fun b => .pick c a b
  | .alloc t => (sizeT P t).bind fun sz => (zeroT P t).map fun z => .alloc t sz z
  | .box t x => (sizeT P t).bind fun sz => (compX x).map fun x => .box t sz x
  | .build t parts => (fieldsT P t).bind fun fs => (zeroT P t).bind fun z => if fs.toList.all (fun f => (sizeT P f.type).isSome) then (partsS P fs parts.toList).map fun ps => .bld z ps else none
  | .buildSlice t len parts => (elemT P t).bind fun e => (sizeT P e).bind fun sz => (zeroT P e).bind fun z => (partsA parts.toList).bind fun ps =>
      if len == 0 && parts.size == 0 && 0 < sz then some (.bsl e sz 0 z []) else if 0 < len && 0 < sz && len * sz ≤ 16777216 then some (.bsl e sz len z ps) else none
  | .load t a => (aggT P t).bind fun g => (sizeT P t).bind fun sz => (compX a).map fun a => .ld g sz a
  | .store t a x => (sizeT P t).bind fun sz => (compX a).bind fun a => (compX x).map fun x => .st sz a x
  | .nilCheck x => (compX x).map .nilck
  | .binOp op t x y _ => (compX x).bind fun x => (compX y).map fun y => binC ((isBoolT P t && !isNilK y) || (isSlT P t && isNilK y)) (flatS P t) op x y
  | .unOp op _ x => (compX x).map fun x => .un op x
  | .convert src dst x => if bytesT P src && isStrT P dst then (compX x).map .b2s else (isIntT P src).bind fun _ => (isIntT P dst).bind fun k => (compX x).map fun x => .cvi k x
  | .makeFunc (.func f) first captured => if first.size = 0 then (compXs captured.toList).map fun cs => .mkf f cs else none
  | .slice t x lo hi none => (compX x).bind fun x => (compXo lo).bind fun lo => (compXo hi).bind fun hi =>
      if isStrT P t then some (.sls x lo hi) else (elemT P t).bind fun e => (sizeT P e).map fun sz => .slc sz x lo hi
  | .slice t x lo hi (some mx) => (elemT P t).bind fun e => (sizeT P e).bind fun _ => (compX x).bind fun x => (compXo lo).bind fun lo => (compXo hi).bind fun hi => (compX mx).bind fun mx => if hi.isSome then some (.s3 x lo hi (some mx)) else none
  | .range t x => if isStrT P t then (compX x).map .rng else none
  | .next x str => if str then (compX x).map .nxt else none
  | .makeSlice t x y => (elemT P t).bind fun e => (P.info? e).bind fun i => (zeroT P e).bind fun z => (compX x).bind fun x => (compX y).bind fun y => if sameX x y && 0 < i.size && 0 < i.bytes then some (.mks e i.size i.bytes z x) else none
  | .fieldAddr t x f => (fieldsT P t).bind fun fs => (fs[f]?).bind fun f => (sizeT P f.type).bind fun sz => if sz = 0 then none else (compX x).map fun x => .fa f.offset x
  | .field t x f => (fieldsT P t).bind fun fs => (fs[f]?).bind fun f => (sizeT P f.type).bind fun sz => (aggT P f.type).bind fun g => (compX x).map fun x => .fld g f.offset sz x
  | .indexAddr t x i => (elemT P t).bind fun e => (sizeT P e).bind fun sz => (compX x).bind fun x => (compX i).map fun i => .ia sz x i
  | .index t x i => if isStrT P t then (compX x).bind fun x => (compX i).map fun i => .ix x i else none
  | .extract x i => (compX x).map fun x => .ex x i
  | .call { callee := .value f, args, argTypes := _ } => (compX f).bind fun f => (compXs args.toList).map fun as => .call f as
  | .call { callee := .builtin .len, args, argTypes } =>
      match args.toList, argTypes.toList with
      | [x], [t] => if isStrT P t then (compX x).map .lens else (elemT P t).bind fun _ => (compX x).map .len
      | _, _ => none
  | .call { callee := .builtin .min, args, argTypes } =>
      match args.toList with
      | [x, y] => (compX x).bind fun x => (compX y).map fun y => .mn x y
      | _ => none
  | .call { callee := .builtin .max, args, argTypes } =>
      match args.toList with
      | [x, y] => (compX x).bind fun x => (compX y).map fun y => .mx x y
      | _ => none
  | .call { callee := .builtin .append, args, argTypes } =>
      match args.toList, argTypes.toList with
      | [x, y], [t, u] => (elemT P t).bind fun e => (P.info? e).bind fun i => (zeroT P e).bind fun z => if 0 < i.size && 0 < i.bytes then (compX x).bind fun x => (compX y).bind fun y =>
          if t = u then some (.app e i.size i.bytes z x y) else if (isIntT P u).isSome then some (.apz e i.size i.bytes z x y) else if isStrT P u && i.size == 1 && i.bytes == 1 then some (.aps e x y) else none
          else none
      | _, _ => none
  | .call { callee := .builtin .cap, args, argTypes } =>
      match args.toList, argTypes.toList with
      | [x], [t] => (elemT P t).bind fun _ => (compX x).map .cap
      | _, _ => none
  | .call { callee := .builtin .copy, args, argTypes } =>
      match args.toList, argTypes.toList with
      | [x, y], [t, u] => (elemT P t).bind fun e => (sizeT P e).bind fun sz => if t = u && 0 < sz then (compX x).bind fun x => (compX y).map fun y => .cpy sz x y else none
      | _, _ => none
  | .call { callee := .builtin .clear, args, argTypes } =>
      match args.toList, argTypes.toList with
      | [x], [t] => (elemT P t).bind fun e => (sizeT P e).bind fun sz => (zeroT P e).bind fun z => if 0 < sz then (compX x).map fun x => .clr sz z x else none
      | _, _ => none
  | _ => none
/-- 0: no memory is looked at; 1: none is written; 2: others. -/
def cls : O → Nat
  | .mv _ | .eqa .. | .eqb .. | .pick .. | .bld .. | .bin .. | .un .. | .cvi .. | .mkf .. | .sls .. | .lens _ | .ix .. | .ex .. | .mn .. | .mx .. | .fld .. => 0
  | .cap _ | .s3 .. | .b2s _ | .ld .. | .ia .. | .fa .. | .nilck _ | .len _ | .slc .. | .call .. => 1
  | .alloc .. | .box .. | .bsl .. | .st .. | .app .. | .cpy .. | .clr .. | .apz .. | .aps .. | .rng _ | .nxt _ | .mks .. => 2
def isCall : O → Bool
  | .call .. => true
  | _ => false
def capsL (caps : Nat → AV) (k : Nat) : Nat → List Pt
  | 0 => []
  | n + 1 => .one (caps k) :: capsL caps (k + 1) n
def callee : SV → Option (Nat × List Pt)
  | .p (.one (.fn f n caps)) => some (f, capsL caps 0 n)
  | _ => none
def ptsOf (vl : Opd → SV) : List Opd → Option (List Pt)
  | [] => some []
  | x :: xs =>
    match vl x with
    | .p q => (ptsOf vl xs).map (q :: ·)
    | _ => none
/-- A guard's condition. -/
def gcond : SV → Bool → Option Bool
  | .p (.one (.c (.v (.bool b)))), true => some b
  | .p (.one (.c (.v (.bool b)))), false => some (!b)
  | .g c (.p (.one (.c (.v (.bool b))))), true => some (c && b)
  | .g c (.p (.one (.c (.v (.bool b))))), false => some (c && !b)
  | _, _ => none
def stOk (op : O) (dst : Option Nat) : Bool :=
  match op with
  | .st .. => dst.isNone
  | _ => true
def dstOk (dst : Option Nat) (n : Nat) : Bool :=
  match dst with
  | some d => decide (d < n)
  | none => true
def compL (P : Program) (n : Nat) (ops : Array Oper) (o : Oper) : Option OpL :=
  (compO P o.op).bind fun op =>
    if dstOk o.dst n && stOk op o.dst then
      match o.guard with
      | none => some ⟨o.dst, op, none⟩
      | some (j, want) => (((ops[j]?).bind (·.dst))).map fun g => ⟨o.dst, op, some (g, want)⟩
    else none
end Go.Proofs.YtioefecijidgkaaAbs
