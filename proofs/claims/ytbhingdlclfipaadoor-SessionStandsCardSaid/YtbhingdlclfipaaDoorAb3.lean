/- An abstract calculus over pure data, part 3: operations, and what each does to data. -/
import Derived.Test.YtbhingdlclfipaaDoorAb2
namespace Go.Proofs.YtbhingdlclfipaaDoor.Ab
open Go Go.RowKit

/-- An operand: a slot, or a constant. -/
inductive X where
  | t (n : Nat) | c (a : A)
def X.val (env : Nat → Option A) : X → Option A
  | .t n => env n
  | .c a => some a

/-- Operations, with all that the program's types say of them. -/
inductive I where
  | mv (x : X)
  | pick (c a b : X)
  | alloc (T : TypeId) (zs : List D)
  | box (T : TypeId) (x : X)
  | build (zs : List D) (ps : List (Nat × Nat × X))
  | bsl (e sz : Nat) (xs : List X)
  | load (n : Nat) (ag : Bool) (x : X)
  | store (n : Nat) (x y : X)
  | nchk (x : X)
  | bin (op : BinOp) (x y : X)
  | eqb (neg : Bool) (x y : X)
  | eqs (neg : Bool) (ks : List Nat) (x y : X)
  | un (op : UnOp) (x : X)
  | cvi (k : IntKind) (x : X)
  | cv0 (x : X)
  | cvs (x : X)
  | cvb (e : TypeId) (x : X)
  | cvm (e : TypeId) (x : X)
  | cvr (x : X)
  | fad (off : Nat) (x : X)
  | fld (off n : Nat) (ag : Bool) (x : X)
  | iad (sz : Nat) (x y : X)
  | iada (n sz : Nat) (x y : X)
  | idx (x y : X)
  | sls (x : X) (lo hi : Option X)
  | sll (sz : Nat) (x : X) (lo hi : Option X)
  | len (str : Bool) (x : X)
  | app (e sz bytes : Nat) (x y : X)
  | ext (x : X) (i : Nat)
  | call (f : FuncId) (xs : List X)

structure Eff where
  nb : Option Box := none
  kill : Option Nat := none
  nt : Option (TypeId × Nat) := none
  wr : Option (Nat × Box) := none
def Eff.nil : Eff := {}

def St.eff (S : St) (nm : Nat) (e : Eff) : St :=
  { S with
    bx := (match e.nb with | some b => upd (match e.wr with | some (n, c) => upd S.bx n (some c) | none => S.bx) nm (some b) | none => (match e.wr with | some (n, c) => upd S.bx n (some c) | none => S.bx))
    tk := (match e.nt with | some q => upd (match e.kill with | some t => upd S.tk t none | none => S.tk) nm (some q) | none => (match e.kill with | some t => upd S.tk t none | none => S.tk)) }

def setL (cs : List D) : Nat → List D → List D
  | _, [] => cs
  | off, d :: ds => setL (cs.set off d) (off + 1) ds
def fillL (zs : List D) : List (Nat × Nat × List D) → List D
  | [] => zs
  | (off, _, ds) :: r => fillL (setL zs off ds) r
def partsOK (n : Nat) : List (Nat × Nat × List D) → Prop
  | [] => True
  | (off, m, ds) :: r => (ds.length = m ∧ off + m ≤ n) ∧ partsOK n r

def byteAt (s : ByteArray) (i : Nat) : Int := ((s.data.getD i 0).toNat : Int)

/-- Numbers, texts, truths: what an operator gives, and what it asks. -/
def binV (op : BinOp) (u v : Value) : Option (Prop × Value) :=
  match op, u, v with
  | .add, .int k x, .int k' y => some (k = k', .int k (k.wrap (x + y)))
  | .sub, .int k x, .int k' y => some (k = k', .int k (k.wrap (x - y)))
  | .mul, .int k x, .int k' y => some (k = k', .int k (k.wrap (x * y)))
  | .quo, .int k x, .int k' y => some (k = k' ∧ y ≠ 0, .int k (k.wrap (x.tdiv y)))
  | .rem, .int k x, .int k' y => some (k = k' ∧ y ≠ 0, .int k (x.tmod y))
  | .and, .int k x, .int k' y => some (k = k', .int k (Go.bits .and k x y))
  | .or, .int k x, .int k' y => some (k = k', .int k (Go.bits .or k x y))
  | .xor, .int k x, .int k' y => some (k = k', .int k (Go.bits .xor k x y))
  | .andNot, .int k x, .int k' y => some (k = k', .int k (Go.bits .andNot k x y))
  | .shl, .int k x, .int _ y => some (0 ≤ y, .int k (k.wrap (x * 2 ^ min y.toNat k.bits)))
  | .shr, .int k x, .int _ y => some (0 ≤ y, .int k (x / 2 ^ min y.toNat k.bits))
  | .eql, .int k x, .int k' y => some (k = k', .bool (decide (x = y)))
  | .neq, .int k x, .int k' y => some (k = k', .bool (!decide (x = y)))
  | .lss, .int k x, .int k' y => some (k = k', .bool (x < y))
  | .leq, .int k x, .int k' y => some (k = k', .bool (x ≤ y))
  | .gtr, .int k x, .int k' y => some (k = k', .bool (x > y))
  | .geq, .int k x, .int k' y => some (k = k', .bool (x ≥ y))
  | .add, .string a, .string b => some (a.size + b.size ≤ 9223372036854775807, .string (a ++ b))
  | .eql, .string a, .string b => some (True, .bool (decide (a = b)))
  | .neq, .string a, .string b => some (True, .bool (!decide (a = b)))
  | .lss, .string a, .string b => some (True, .bool (Op.bytesLess a.toList b.toList))
  | _, _, _ => none
def unV (op : UnOp) (u : Value) : Option Value :=
  match op, u with
  | .not, .bool b => some (.bool !b)
  | .neg, .int k x => some (.int k (k.wrap (0 - x)))
  | .xor, .int k x => some (.int k (Go.bits .xor k (if k.signed then -1 else k.max) x))
  | _, _ => none
/-- Cells of structs that are compared: truths (0), numbers (1), texts (2). -/
def eqC : List Nat → List D → List D → Option Bool
  | [], [], [] => some true
  | 2 :: ks, .v (.string a) :: r, .v (.string b) :: s => (eqC ks r s).map fun q => decide (a = b) && q
  | 1 :: ks, .v (.int k a) :: r, .v (.int k' b) :: s => if k = k' then (eqC ks r s).map fun q => decide (a = b) && q else none
  | 0 :: ks, .v (.bool a) :: r, .v (.bool b) :: s => (eqC ks r s).map fun q => (a == b) && q
  | _, _, _ => none
def cellsAt (cs : List D) (off n : Nat) : Bool → Option A
  | true => some (.agg ((cs.drop off).take n))
  | false => (cs[off]?).map .one
def cloL : List D → Option (List D)
  | [] => some []
  | d :: r => d.clo.bind fun d' => (cloL r).map (d' :: ·)
def A.flat : A → Option (List D)
  | .one d => some [d]
  | .agg cs => some cs
  | .tup _ => none
/-- Elements of a slice that is written out. -/
def elems (env : Nat → Option A) : List X → Option (List (List D))
  | [] => some []
  | x :: r => (x.val env).bind fun a => a.flat.bind fun l => (cloL l).bind fun c => (elems env r).map (c :: ·)
def parts (env : Nat → Option A) : List (Nat × Nat × X) → Option (List (Nat × Nat × List D))
  | [] => some []
  | (o, n, x) :: r => (x.val env).bind fun a => a.flat.bind fun l => (parts env r).map ((o, n, l) :: ·)
def bnd (d : Int) : Option X → (Nat → Option A) → Option Int
  | none, _ => some d
  | some x, env => match x.val env with | some (.one (.v (.int _ i))) => some i | _ => none
def isByte : List D → Prop
  | [.v (.int .u8 n)] => 0 ≤ n ∧ n ≤ 255
  | _ => False
def byteOf : List D → UInt8
  | [.v (.int _ n)] => UInt8.ofNat n.toNat
  | _ => 0
def strOf (xs : List (List D)) : ByteArray := ⟨(xs.map byteOf).toArray⟩
def bytesD (s : ByteArray) : List (List D) := s.data.toList.map fun b => [.v (.int .u8 (b.toNat : Int))]

/-- What is told of functions: what a call asks, and what it gives. -/
abbrev Sp := FuncId → List A → Option (Prop × A)
def clfL : List D → Option (List D)
  | [] => some []
  | d :: r => d.clf.bind fun d' => (clfL r).map (d' :: ·)
def A.clf : A → Option A
  | .one d => d.clf.map .one
  | .agg cs => (cloL cs).map .agg
  | .tup _ => none
def args (env : Nat → Option A) : List X → Option (List A)
  | [] => some []
  | x :: r => (x.val env).bind fun a => a.clf.bind fun c => (args env r).map (c :: ·)

def istep (sp : Sp) (bx : Nat → Option Box) (tk : Nat → Option (TypeId × Nat)) (env : Nat → Option A) (nm : Nat) (o : I) : Option (Prop × Option A × Eff) :=
  match o with
  | .mv x => (x.val env).map fun a => (True, some a, .nil)
  | .pick c a b =>
    match c.val env, a.val env, b.val env with
    | some (.one (.v (.bool t))), some (.one (.v (.bool p))), some (.one (.v (.bool q))) => some (True, some (.one (.v (.bool (if t = true then p else q)))), .nil)
    | some (.one (.v (.bool t))), some p, some q => some (True, some (if t = true then p else q), .nil)
    | _, _, _ => none
  | .alloc T zs => some (True, some (.one (.ptr nm 0)), { nb := some (.cells T zs) })
  | .box T x =>
    match x.val env with
    | some (.one d) => some (True, some (.one (.ptr nm 0)), { nb := some (.cells T [d]) })
    | some (.agg cs) => some (True, some (.one (.ptr nm 0)), { nb := some (.cells T cs) })
    | _ => none
  | .build zs ps => (parts env ps).map fun l => (partsOK zs.length l, some (.agg (fillL zs l)), .nil)
  | .bsl _ sz xs => (elems env xs).map fun l => ((∀ x ∈ l, x.length = sz) ∧ l ≠ [] ∧ l.length ≤ 1000000, some (.one (.sl .full sz l)), .nil)
  | .load n ag x =>
    match x.val env with
    | some (.one (.ptr b off)) =>
      match bx b with
      | some (.cells _ cs) => (cellsAt cs off n ag).map fun r => (off + n ≤ cs.length, some r, .nil)
      | _ => none
    | some (.one (.ea cs)) => (cellsAt cs 0 n ag).map fun r => (n ≤ cs.length, some r, .nil)
    | _ => none
  | .store n x y =>
    match x.val env, y.val env with
    | some (.one (.ptr b off)), some (.one d) =>
      match bx b with
      | some (.cells T cs) => some (n = 1 ∧ off + 1 ≤ cs.length, none, { wr := some (b, .cells T (setL cs off [d])) })
      | _ => none
    | some (.one (.ptr b off)), some (.agg ds) =>
      match bx b with
      | some (.cells T cs) => some (ds.length = n ∧ off + ds.length ≤ cs.length, none, { wr := some (b, .cells T (setL cs off ds)) })
      | _ => none
    | _, _ => none
  | .nchk x =>
    match x.val env with
    | some (.one (.ptr b off)) => some (True, some (.one (.ptr b off)), .nil)
    | some (.one (.ea cs)) => some (True, some (.one (.ea cs)), .nil)
    | _ => none
  | .bin op x y =>
    match x.val env, y.val env with
    | some (.one (.v u)), some (.one (.v v)) => (binV op u v).map fun (p, r) => (p, some (.one (.v r)), .nil)
    | _, _ => none
  | .eqb neg x y =>
    match x.val env, y.val env with
    | some (.one (.v (.bool a))), some (.one (.v (.bool b))) => some (True, some (.one (.v (.bool (if neg then !(a == b) else a == b)))), .nil)
    | _, _ => none
  | .eqs neg ks x y =>
    match x.val env, y.val env with
    | some (.agg cs), some (.agg ds) => (eqC ks cs ds).map fun q => (True, some (.one (.v (.bool (if neg then !q else q)))), .nil)
    | _, _ => none
  | .un op x =>
    match x.val env with
    | some (.one (.v u)) => (unV op u).map fun r => (True, some (.one (.v r)), .nil)
    | _ => none
  | .cvi k x =>
    match x.val env with
    | some (.one (.v (.int _ n))) => some (True, some (.one (.v (.int k (k.wrap n)))), .nil)
    | _ => none
  | .cv0 x =>
    match x.val env with
    | some (.one (.v (.string s))) => some (True, some (.one (.v (.string s))), .nil)
    | _ => none
  | .cvs x =>
    match x.val env with
    | some (.one (.sl _ z xs)) => some (z = 1 ∧ ∀ x ∈ xs, isByte x, some (.one (.v (.string (strOf xs)))), .nil)
    | some (.one (.rs b o len)) =>
      match bx b with
      | some (.cells _ cs) => some (o + len ≤ cs.length ∧ ∀ x ∈ (cs.drop o).take len, isByte [x], some (.one (.v (.string (strOf (((cs.drop o).take len).map fun x => [x]))))), .nil)
      | _ => none
    | _ => none
  | .cvb _ x =>
    match x.val env with
    | some (.one (.v (.string s))) => some (s.size ≤ 140737488355328, some (.one (.sl .no 1 (bytesD s))), .nil)
    | _ => none
  | .cvm e x =>
    match x.val env with
    | some (.one (.v (.string s))) => some (s.size ≤ 140737488355328, some (.one (.rs nm 0 s.size)), { nb := some (.cells e (bytesD s).flatten) })
    | _ => none
  | .cvr x =>
    match x.val env with
    | some (.one (.v (.int _ n))) => some (True, some (.one (.v (.string (Utf8.encode n)))), .nil)
    | _ => none
  | .fad off x =>
    match x.val env with
    | some (.one (.ptr b o)) => some (True, some (.one (.ptr b (o + off))), .nil)
    | some (.one (.ea cs)) => some (off ≤ cs.length, some (.one (.ea (cs.drop off))), .nil)
    | _ => none
  | .fld off n ag x =>
    match x.val env with
    | some (.agg cs) => (cellsAt cs off n ag).map fun r => (off + n ≤ cs.length, some r, .nil)
    | _ => none
  | .iad sz x y =>
    match x.val env, y.val env with
    | some (.one (.sl _ z xs)), some (.one (.v (.int _ i))) => some (z = sz ∧ 0 ≤ i ∧ i < xs.length, some (.one (.ea (xs.getD i.toNat []))), .nil)
    | some (.one (.rs b o len)), some (.one (.v (.int _ i))) => some (0 ≤ i ∧ i < len, some (.one (.ptr b (o + i.toNat * sz))), .nil)
    | _, _ => none
  | .iada n sz x y =>
    match x.val env, y.val env with
    | some (.one (.ptr b o)), some (.one (.v (.int _ i))) => some (0 ≤ i ∧ i < n, some (.one (.ptr b (o + i.toNat * sz))), .nil)
    | _, _ => none
  | .idx x y =>
    match x.val env, y.val env with
    | some (.one (.v (.string s))), some (.one (.v (.int _ i))) => some (0 ≤ i ∧ i < s.size, some (.one (.v (.int .u8 (byteAt s i.toNat)))), .nil)
    | _, _ => none
  | .sls x lo hi =>
    match x.val env with
    | some (.one (.v (.string s))) =>
      match bnd 0 lo env, bnd s.size hi env with
      | some l, some h => some (0 ≤ l ∧ l ≤ h ∧ h ≤ s.size, some (.one (.v (.string (s.extract l.toNat h.toNat)))), .nil)
      | _, _ => none
    | _ => none
  | .sll sz x lo hi =>
    match x.val env with
    | some (.one (.sl _ z xs)) =>
      match bnd 0 lo env, bnd xs.length hi env with
      | some l, some h => some (z = sz ∧ 0 ≤ l ∧ l ≤ h ∧ h ≤ xs.length, some (.one (.sl .no sz ((xs.take h.toNat).drop l.toNat))), .nil)
      | _, _ => none
    | _ => none
  | .len str x =>
    match str, x.val env with
    | true, some (.one (.v (.string s))) => some (True, some (.one (.v (.int .i64 s.size))), .nil)
    | false, some (.one (.sl _ _ xs)) => some (True, some (.one (.v (.int .i64 xs.length))), .nil)
    | false, some (.one (.rs _ _ len)) => some (True, some (.one (.v (.int .i64 len))), .nil)
    | _, _ => none
  | .app e sz bytes x y =>
    match x.val env, y.val env with
    | some (.one (.sl t z xs)), some (.one (.sl _ z' ys)) =>
      match t with
      | .tk k => some (tk k = some (e, sz) ∧ z = sz ∧ z' = sz ∧ (xs.length + ys.length) * bytes ≤ 140737488355328, some (.one (.sl (.tk nm) sz (xs ++ ys))), { kill := some k, nt := some (e, sz) })
      | .full => some (z = sz ∧ z' = sz ∧ (xs.length + ys.length) * bytes ≤ 140737488355328, some (.one (.sl (.tk nm) sz (xs ++ ys))), { nt := some (e, sz) })
      | .no => none
    | _, _ => none
  | .ext x i =>
    match x.val env with
    | some (.tup vs) => (vs[i]?).map fun a => (True, some a, .nil)
    | _ => none
  | .call f xs => (args env xs).bind fun l => (sp f l).map fun (p, r) => (p, some r, .nil)

/-- The slots that an operation looks at. -/
def X.slot : X → List Nat
  | .t n => [n]
  | .c _ => []
def I.slots : I → List Nat
  | .mv x | .box _ x | .load _ _ x | .nchk x | .un _ x | .cvi _ x | .cv0 x | .cvs x | .cvb _ x | .cvm _ x | .cvr x | .fad _ x | .fld _ _ _ x | .len _ x | .ext x _ => x.slot
  | .pick c a b => c.slot ++ a.slot ++ b.slot
  | .alloc _ _ => []
  | .build _ ps => ps.flatMap fun p => p.2.2.slot
  | .bsl _ _ xs => xs.flatMap X.slot
  | .store _ x y | .bin _ x y | .eqb _ x y | .eqs _ _ x y | .iad _ x y | .iada _ _ x y | .idx x y | .app _ _ _ x y => x.slot ++ y.slot
  | .sls x lo hi | .sll _ x lo hi => x.slot ++ (lo.toList.flatMap X.slot) ++ (hi.toList.flatMap X.slot)
  | .call _ xs => xs.flatMap X.slot

theorem X.val_congr {env env' : Nat → Option A} {x : X} (h : ∀ n ∈ x.slot, env n = env' n) : x.val env = x.val env' := by
  cases x with
  | t n => exact h n (by simp [X.slot])
  | c a => rfl
theorem elems_congr {env env' : Nat → Option A} : ∀ {xs : List X}, (∀ n ∈ xs.flatMap X.slot, env n = env' n) → elems env xs = elems env' xs
  | [], _ => rfl
  | x :: r, h => by
    simp only [elems]
    rw [X.val_congr (x := x) fun n hn => h n (by simp [hn]), elems_congr (xs := r) fun n hn => h n (by simp only [List.flatMap_cons, List.mem_append]; exact .inr hn)]
theorem parts_congr {env env' : Nat → Option A} : ∀ {xs : List (Nat × Nat × X)}, (∀ n ∈ xs.flatMap (fun p => p.2.2.slot), env n = env' n) → parts env xs = parts env' xs
  | [], _ => rfl
  | (o, m, x) :: r, h => by
    simp only [parts]
    rw [X.val_congr (x := x) fun n hn => h n (by simp [hn]), parts_congr (xs := r) fun n hn => h n (by simp only [List.flatMap_cons, List.mem_append]; exact .inr hn)]
theorem bnd_congr {env env' : Nat → Option A} {d : Int} {x : Option X} (h : ∀ n ∈ x.toList.flatMap X.slot, env n = env' n) : bnd d x env = bnd d x env' := by
  cases x with
  | none => rfl
  | some x =>
    simp only [bnd]
    rw [X.val_congr (x := x) fun n hn => h n (by simp [hn])]
theorem args_congr {env env' : Nat → Option A} : ∀ {xs : List X}, (∀ n ∈ xs.flatMap X.slot, env n = env' n) → args env xs = args env' xs
  | [], _ => rfl
  | x :: r, h => by
    simp only [args]
    rw [X.val_congr (x := x) fun n hn => h n (by simp [hn]), args_congr (xs := r) fun n hn => h n (by simp only [List.flatMap_cons, List.mem_append]; exact .inr hn)]
theorem istep_congr {sp : Sp} {bx : Nat → Option Box} {tk : Nat → Option (TypeId × Nat)} {env env' : Nat → Option A} {nm : Nat} {o : I} (h : ∀ n ∈ o.slots, env n = env' n) : istep sp bx tk env nm o = istep sp bx tk env' nm o := by
  cases o <;> simp only [I.slots] at h <;> simp only [istep]
  case mv x => rw [X.val_congr h]
  case pick c a b =>
    rw [X.val_congr (x := c) fun n hn => h n (by simp [hn]), X.val_congr (x := a) fun n hn => h n (by simp [hn]), X.val_congr (x := b) fun n hn => h n (by simp [hn])]
  case box T x => rw [X.val_congr h]
  case build zs ps => rw [parts_congr h]
  case bsl e sz xs => rw [elems_congr h]
  case load n ag x => rw [X.val_congr h]
  case store n x y => rw [X.val_congr (x := x) fun n hn => h n (by simp [hn]), X.val_congr (x := y) fun n hn => h n (by simp [hn])]
  case nchk x => rw [X.val_congr h]
  case bin op x y => rw [X.val_congr (x := x) fun n hn => h n (by simp [hn]), X.val_congr (x := y) fun n hn => h n (by simp [hn])]
  case eqb op x y => rw [X.val_congr (x := x) fun n hn => h n (by simp [hn]), X.val_congr (x := y) fun n hn => h n (by simp [hn])]
  case eqs op ks x y => rw [X.val_congr (x := x) fun n hn => h n (by simp [hn]), X.val_congr (x := y) fun n hn => h n (by simp [hn])]
  case un op x => rw [X.val_congr h]
  case cvi k x => rw [X.val_congr h]
  case cv0 x => rw [X.val_congr h]
  case cvs x => rw [X.val_congr h]
  case cvb e x => rw [X.val_congr h]
  case cvm e x => rw [X.val_congr h]
  case cvr x => rw [X.val_congr h]
  case fad off x => rw [X.val_congr h]
  case fld off n ag x => rw [X.val_congr h]
  case iad sz x y => rw [X.val_congr (x := x) fun n hn => h n (by simp [hn]), X.val_congr (x := y) fun n hn => h n (by simp [hn])]
  case iada n sz x y => rw [X.val_congr (x := x) fun n hn => h n (by simp [hn]), X.val_congr (x := y) fun n hn => h n (by simp [hn])]
  case idx x y => rw [X.val_congr (x := x) fun n hn => h n (by simp [hn]), X.val_congr (x := y) fun n hn => h n (by simp [hn])]
  case sls x lo hi =>
    rw [X.val_congr (x := x) fun n hn => h n (by simp [hn])]
    simp only [bnd_congr (x := lo) fun n hn => h n (List.mem_append_left _ (List.mem_append_right _ hn)), bnd_congr (x := hi) fun n hn => h n (List.mem_append_right _ hn)]
  case sll sz x lo hi =>
    rw [X.val_congr (x := x) fun n hn => h n (by simp [hn])]
    simp only [bnd_congr (x := lo) fun n hn => h n (List.mem_append_left _ (List.mem_append_right _ hn)), bnd_congr (x := hi) fun n hn => h n (List.mem_append_right _ hn)]
  case len s x => rw [X.val_congr h]
  case app e sz b x y => rw [X.val_congr (x := x) fun n hn => h n (by simp [hn]), X.val_congr (x := y) fun n hn => h n (by simp [hn])]
  case ext x i => rw [X.val_congr h]
  case call f xs => rw [args_congr h]

end Go.Proofs.YtbhingdlclfipaaDoor.Ab
