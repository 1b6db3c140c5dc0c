/- The evaluator: a weakest precondition of the program's code over environments, without frames; sound for the model's own (GxB). -/
import Derived.Tactics
import Derived.Below
import Derived.Laws.World
import Derived.CallsIn
namespace Go.GX
set_option linter.unusedVariables false

/-! ## Environments -/
abbrev Env := Nat → Value
def Env.set (ρ : Env) (d : Nat) (v : Value) : Env := fun t => bif Nat.beq t d then v else ρ t
def Env.put (ρ : Env) : Option Nat → Value → Env
  | some d, v => ρ.set d v
  | none, _ => ρ
def Env.ev (ρ : Env) : Operand → Value
  | .tmp t => ρ t
  | .const v => v
  | .global g => .pointer (some ⟨g, 0, none⟩)
  | .func f => .func (.func f) #[] #[]
/-- The environment in which a call begins. -/
def Env.ini : List Value → Env
  | [] => fun _ => undef
  | v :: vs => fun t => match t with | 0 => v | t + 1 => Env.ini vs t

/-- A map over a short array that the kernel reckons. -/
def mapA {α β : Type} (f : α → β) (xs : Array α) : Array β := (xs.toList.map f).toArray
theorem mapA_eq {α β : Type} (f : α → β) (xs : Array α) : mapA f xs = xs.map f := by
  apply Array.ext'
  simp [mapA]
def callA (first : Array Value) (args : Array Operand) (ρ : Env) (cap : Array Value) : Array Value := (first.toList ++ args.toList.map ρ.ev ++ cap.toList).toArray
def callV (fi : Array Value) (args : List Value) (ca : Array Value) : Array Value := (fi.toList ++ args ++ ca.toList).toArray
theorem callA_eq (first : Array Value) (args : Array Operand) (ρ : Env) (cap : Array Value) : callA first args ρ cap = first ++ args.map ρ.ev ++ cap := by
  apply Array.ext'
  simp [callA]

/-! ## What is known of types -/
inductive TK where
  | int (k : IntKind)
  | bool
  | str
  | slice (e sz : Nat)
  | ptr
  | fn
  | opaque1
  | agg (sz : Nat) (fs : List (Nat × Nat)) (zs : List Value)
  | arr (n e sz : Nat) (zs : List Value)
  | tup (n : Nat)
def TK.zero : TK → Value
  | .int k => .int k 0
  | .bool => .bool false
  | .str => .string ⟨#[]⟩
  | .slice .. => .slice none 0 0
  | .ptr => .pointer none
  | .fn => .nilFunc
  | .opaque1 => undef
  | .agg _ _ zs => .agg zs.toArray
  | .arr _ _ _ zs => .agg zs.toArray
  | .tup _ => undef
def pinfo (P : Program) (t : Nat) : Option (Option Value × Nat) := (P.info? t).map fun i => (i.zero, i.size)
/-- A type of one cell that is none of the others. -/
def oneOk (P : Program) (t : Nat) : Bool :=
  match P.underlying t, pinfo P t with
  | some (.struct _), _ => false
  | some (.array _ _), _ => false
  | some _, some (_, 1) => true
  | _, _ => false
def TSpec (P : Program) (t : Nat) : TK → Prop
  | .int k => P.underlying t = some (.int k) ∧ pinfo P t = some (some (.int k 0), 1)
  | .bool => P.underlying t = some .bool ∧ pinfo P t = some (some (.bool false), 1)
  | .str => P.underlying t = some .string ∧ pinfo P t = some (some (.string ⟨#[]⟩), 1)
  | .slice e sz => P.underlying t = some (.slice e) ∧ pinfo P t = some (some (.slice none 0 0), 1) ∧ (∃ z, pinfo P e = some (some z, sz))
  | .ptr => (∃ e, P.underlying t = some (.pointer e)) ∧ pinfo P t = some (some (.pointer none), 1)
  | .fn => oneOk P t = true ∧ pinfo P t = some (some .nilFunc, 1)
  | .opaque1 => oneOk P t = true
  | .agg sz fs zs => (∃ fa, P.underlying t = some (.struct fa) ∧ (fa.toList.map fun f => (f.offset, f.type)) = fs ∧ ∀ f ∈ fa.toList, ∃ z s, pinfo P f.type = some (z, s) ∧ 0 < s) ∧ pinfo P t = some (some (.agg zs.toArray), sz) ∧ zs.length = sz
  | .arr n e sz zs => P.underlying t = some (.array n e) ∧ (∃ z, pinfo P e = some (z, sz)) ∧ pinfo P t = some (some (.agg zs.toArray), n * sz) ∧ zs.length = n * sz
  | .tup _ => True

/-! ## Words of the predicates -/
/-- A value of a kind that is no more than known to be one. -/
def Dec (tk : Option TK) (v : Value) (k : Value → Prop) : Prop :=
  match tk with
  | some (.int q) => ∃ n, v = .int q n ∧ k (.int q n)
  | some .bool => ∃ b, v = .bool b ∧ k (.bool b)
  | some .str => ∃ s, v = .string s ∧ k (.string s)
  | some (.slice _ _) => ∃ A n c, v = .slice A n c ∧ k (.slice A n c)
  | some .ptr => ∃ p, v = .pointer p ∧ k (.pointer p)
  | some .fn => ∃ g fi ca, v = .func (.func g) fi ca ∧ k (.func (.func g) fi ca)
  | some (.agg _ _ _) => ∃ cs, v = .agg cs ∧ k (.agg cs)
  | some (.arr _ _ _ _) => ∃ cs, v = .agg cs ∧ k (.agg cs)
  | some (.tup 2) => ∃ v0 v1, v = .tuple #[v0, v1] ∧ k (.tuple #[v0, v1])
  | some (.tup 3) => ∃ v0 v1 v2, v = .tuple #[v0, v1, v2] ∧ k (.tuple #[v0, v1, v2])
  | some (.tup 4) => ∃ v0 v1 v2 v3, v = .tuple #[v0, v1, v2, v3] ∧ k (.tuple #[v0, v1, v2, v3])
  | _ => k v
def CellsAt (w : World) (a : Addr) (cs : Array Value) : Prop := ∀ j v, cs[j]? = some v → w.cell? (a.add j) = some v
def sliceAddr (A : Option Addr) (l c sz : Nat) : Option Addr := if c = l then A else A.map (·.add (l * sz))
/-- Behind a call. -/
def Ret (kk : Value → World → Prop) (kp : List PanicEntry → World → Prop) : Ending → World → Prop
  | .returned v, w => kk v w
  | .panicked ch, w => kp ch w
  | .outgrown, _ => False
/-- A call of a loop's body. -/
def CallsBody (P : Program) (l : Nat) (args : Array Value) (w : World) (R : Ending → World → Prop) : Prop :=
  ∃ fn tmps assign body w', (Instr.yield l args).run P w = .ok (.round l fn tmps assign body) w' ∧ RoundIn Fence.wide 0 P l fn tmps assign body w' R
def RunV (P : Program) (s : Sem Value) (w : World) (k : Value → World → Prop) : Prop := ∃ v w', s.run P w = .ok v w' ∧ k v w'
def RunU (P : Program) (s : Sem Unit) (w : World) (k : World → Prop) : Prop := ∃ w', s.run P w = .ok () w' ∧ k w'
def flat (vs : List Value) : Array Value := (vs.flatMap fun v => v.cells.toList).toArray
def Sized (sz : Nat) (vs : List Value) : Prop := ∀ v ∈ vs, v.cells.size = sz

/-! ## Operations -/
def binV (op : BinOp) (x y : Value) : Option Value :=
  match op, x, y with
  | .add, .int k a, .int k' b => if k = k' then some (.int k (k.wrap (a + b))) else none
  | .sub, .int k a, .int k' b => if k = k' then some (.int k (k.wrap (a - b))) else none
  | .mul, .int k a, .int k' b => if k = k' then some (.int k (k.wrap (a * b))) else none
  | .eql, .int k a, .int k' b => if k = k' then some (.bool (a == b)) else none
  | .neq, .int k a, .int k' b => if k = k' then some (.bool (a != b)) else none
  | .lss, .int k a, .int k' b => if k = k' then some (.bool (decide (a < b))) else none
  | .leq, .int k a, .int k' b => if k = k' then some (.bool (decide (a ≤ b))) else none
  | .gtr, .int k a, .int k' b => if k = k' then some (.bool (decide (a > b))) else none
  | .geq, .int k a, .int k' b => if k = k' then some (.bool (decide (a ≥ b))) else none
  | .eql, .string a, .string b => some (.bool (a.toList == b.toList))
  | .neq, .string a, .string b => some (.bool !(a.toList == b.toList))
  | _, _, _ => none

/-- Operations that only compute. -/
def pureV (T : Nat → Option TK) (o : Op) (ρ : Env) : Option Value :=
  match o with
  | .move x | .assign x => some (ρ.ev x)
  | .pick c a b => match ρ.ev c with
    | .bool t => some (if t = true then ρ.ev a else ρ.ev b)
    | _ => none
  | .binOp op t x y _ => match op, T t, ρ.ev x, ρ.ev y with
    | .eql, some .bool, .bool a, .bool b => some (.bool (a == b))
    | .neq, some .bool, .bool a, .bool b => some (.bool !(a == b))
    | _, _, u, v => binV op u v
  | .unOp .not _ x => match ρ.ev x with
    | .bool b => some (.bool !b)
    | _ => none
  | .unOp .neg _ x => match ρ.ev x with
    | .int k n => some (.int k (k.wrap (0 - n)))
    | _ => none
  | .makeInterface t x => match T t with
    | some .opaque1 => none
    | some .fn => none
    | some (.tup _) => none
    | some _ => some (.iface t (ρ.ev x))
    | none => none
  | .makeFunc fn first cap => some (.func fn (mapA ρ.ev first) (mapA ρ.ev cap))
  | .nilCheck x => match ρ.ev x with
    | .func (.func f) first cap => some (.func (.func f) first cap)
    | .func (.yield l) first cap => some (.func (.yield l) first cap)
    | _ => none
  | .fieldAddr s x f => match T s, ρ.ev x with
    | some (.agg _ fs _), .pointer (some a) => match fs[f]? with
      | some (off, _) => some (.pointer (some (a.add off)))
      | none => none
    | _, _ => none
  | .call { callee := .builtin .len, args, argTypes } => match T (argTypes.getD 0 0), (args[0]?).map ρ.ev, argTypes.size with
    | some (.slice _ _), some (.slice _ n _), 1 => some (.int .i64 n)
    | some .str, some (.string s), 1 => some (.int .i64 s.size)
    | _, _, _ => none
  | .call { callee := .builtin .cap, args, argTypes } => match T (argTypes.getD 0 0), (args[0]?).map ρ.ev, argTypes.size with
    | some (.slice _ _), some (.slice _ _ c), 1 => some (.int .i64 c)
    | _, _, _ => none
  | .call { callee := .builtin .max, args, argTypes := _ } => match (args[0]?).map ρ.ev, (args[1]?).map ρ.ev, args.size with
    | some (.int k a), some (.int _ b), 2 => some (.int k (if b > a then b else a))
    | _, _, _ => none
  | .call { callee := .builtin .min, args, argTypes := _ } => match (args[0]?).map ρ.ev, (args[1]?).map ρ.ev, args.size with
    | some (.int k a), some (.int _ b), 2 => some (.int k (if b < a then b else a))
    | _, _, _ => none
  | _ => none

def sliceP (n c : Nat) (low high : Option Value) (k : Nat → Nat → Prop) : Prop :=
  match low, high with
  | none, none => k 0 n
  | none, some (.int _ h) => 0 ≤ h ∧ h ≤ (c : Int) ∧ k 0 h.toNat
  | some (.int _ l), none => 0 ≤ l ∧ l ≤ (n : Int) ∧ k l.toNat n
  | some (.int _ l), some (.int _ h) => 0 ≤ h ∧ h ≤ (c : Int) ∧ 0 ≤ l ∧ l ≤ h ∧ k l.toNat h.toNat
  | _, _ => False

/-- All others. -/
def effP (P : Program) (T : Nat → Option TK) (B : Nat → Bool) (o : Op) (type : Nat) (ρ : Env) (w : World) (k : Value → World → Prop) (kp : List PanicEntry → World → Prop) : Prop :=
  match o with
  | .binOp .quo _ x y _ => match ρ.ev x, ρ.ev y with
    | .int q a, .int q' b => if q = q' then b ≠ 0 ∧ k (.int q (q.wrap (a.tdiv b))) w else False
    | _, _ => False
  | .binOp .rem _ x y _ => match ρ.ev x, ρ.ev y with
    | .int q a, .int q' b => if q = q' then b ≠ 0 ∧ k (.int q (a.tmod b)) w else False
    | _, _ => False
  | .binOp op t x y _ => RunV P (do eqGuard op t x y (ρ.ev x) (ρ.ev y); binOp op t (ρ.ev x) (ρ.ev y)) w fun v w' => Dec (T type) v fun v => k v w'
  | .nilCheck x => match ρ.ev x with
    | .pointer p => ∃ a, p = some a ∧ k (.pointer (some a)) w
    | _ => False
  | .unOp op _ x => RunV P (Op.unary op (ρ.ev x)) w fun v w' => Dec (T type) v fun v => k v w'
  | .convert src dst x => RunV P (convert src dst (ρ.ev x)) w fun v w' => Dec (T type) v fun v => k v w'
  | .extract x i => match ρ.ev x with
    | .tuple vs => match vs[i]? with
      | some v => Dec (T type) v fun v => k v w
      | none => False
    | _ => False
  | .alloc t => match T t with
    | some .opaque1 => RunV P (Instr.alloc t true (.tuple #[])) w k
    | some (.tup _) => False
    | some tk => k (.pointer (some ⟨w.heap.size, 0, none⟩)) (w.alloc (.cells tk.zero.cells t))
    | none => False
  | .box t x => k (.pointer (some ⟨w.heap.size, 0, none⟩)) (w.alloc (.cells (ρ.ev x).cells t))
  | .load t x => match ρ.ev x with
    | .pointer (some a) => match T t with
      | some (.agg sz _ _) => ∃ cs, cs.size = sz ∧ CellsAt w a cs ∧ k (.agg cs) w
      | some (.arr n _ sz _) => ∃ cs, cs.size = n * sz ∧ CellsAt w a cs ∧ k (.agg cs) w
      | some (.tup _) => False
      | some tk => ∃ v, w.cell? a = some v ∧ Dec (some tk) v fun v => k v w
      | none => False
    | _ => False
  | .store t x y => match ρ.ev x with
    | .pointer (some a) => match T t, ρ.ev y with
      | some (.agg sz _ _), .agg cs => cs.size = sz ∧ RunU P (storeCells a cs.toList) w fun w' => k undef w'
      | some (.arr n _ sz _), .agg cs => cs.size = n * sz ∧ RunU P (storeCells a cs.toList) w fun w' => k undef w'
      | some _, .agg _ => False
      | some (.agg _ _ _), _ => False
      | some (.arr _ _ _ _), _ => False
      | some (.tup _), _ => False
      | some _, .tuple _ => False
      | some _, v => (∃ u, w.cell? a = some u) ∧ w.frozen? a = false ∧ k undef (w.setCell a v)
      | none, _ => False
    | _ => False
  | .field t x f => match T t, ρ.ev x with
    | some (.agg _ fs _), .agg cs => match fs[f]? with
      | some (off, ty) => match T ty with
        | some (.agg sz _ _) => k (.agg (cs.extract off (off + sz))) w
        | some (.arr n _ sz _) => k (.agg (cs.extract off (off + n * sz))) w
        | some (.tup _) => False
        | some tk => ∃ v, cs[off]? = some v ∧ Dec (some tk) v fun v => k v w
        | none => False
      | none => False
    | _, _ => False
  | .indexAddr t x i => match ρ.ev i with
    | .int _ i => match T t, ρ.ev x with
      | some (.slice _ sz), .slice A n _ => ∃ a, A = some a ∧ 0 ≤ i ∧ i < (n : Int) ∧ k (.pointer (some (a.add (i.toNat * sz)))) w
      | some (.arr n _ sz _), .pointer (some a) => 0 ≤ i ∧ i < (n : Int) ∧ k (.pointer (some (a.add (i.toNat * sz)))) w
      | _, _ => False
    | _ => False
  | .index t x i => match ρ.ev i with
    | .int _ i => match T t, ρ.ev x with
      | some .str, .string s => 0 ≤ i ∧ ∃ b, s[i.toNat]? = some b ∧ k (.int .u8 b.toNat) w
      | some (.arr n e sz _), .agg cs => match T e with
        | some (.agg _ _ _) => 0 ≤ i ∧ i < (n : Int) ∧ k (.agg (cs.extract (i.toNat * sz) (i.toNat * sz + sz))) w
        | some (.arr _ _ _ _) => 0 ≤ i ∧ i < (n : Int) ∧ k (.agg (cs.extract (i.toNat * sz) (i.toNat * sz + sz))) w
        | some (.tup _) => False
        | some tk => 0 ≤ i ∧ i < (n : Int) ∧ ∃ v, cs[i.toNat * sz]? = some v ∧ Dec (some tk) v fun v => k v w
        | none => False
      | _, _ => False
    | _ => False
  | .slice t x lo hi none => match T t, ρ.ev x with
    | some (.slice _ sz), .slice A n c => sliceP n c (lo.map ρ.ev) (hi.map ρ.ev) fun l h => k (.slice (sliceAddr A l c sz) (h - l) (c - l)) w
    | some .str, .string s => sliceP s.size s.size (lo.map ρ.ev) (hi.map ρ.ev) fun l h => k (.string (s.extract l h)) w
    | some .ptr, _ => RunV P (Instr.sliceAt t (ρ.ev x) (lo.map ρ.ev) (hi.map ρ.ev) none) w k
    | some (.arr _ _ _ _), _ => RunV P (Instr.sliceAt t (ρ.ev x) (lo.map ρ.ev) (hi.map ρ.ev) none) w k
    | _, _ => False
  | .build t parts => RunV P (Instr.build t (mapA (fun x => (x.1, ρ.ev x.2)) parts)) w fun v w' => Dec (T t) v fun v => k v w'
  | .buildSlice t len parts => match T t with
    | some (.slice e sz) => bif (parts.toList.map (·.1) == List.range len) && Nat.ble (len * sz) 16777216
        then Sized sz (parts.toList.map fun x => ρ.ev x.2) ∧ k (.slice (some ⟨w.heap.size, 0, none⟩) len len) (w.alloc (.cells (flat (parts.toList.map fun x => ρ.ev x.2)) e))
        else False
    | _ => False
  | .makeSlice t l c => RunV P (Instr.makeSlice t (ρ.ev l) (ρ.ev c)) w fun v w' => Dec (T t) v fun v => k v w'
  | .makeInterface t x => RunV P (Instr.makeInterface t (ρ.ev x)) w k
  | .makeMap t r => RunV P (Instr.makeMap t (r.map ρ.ev)) w k
  | .panic x => match ρ.ev x with
    | .iface t u => kp [{ v := .iface t u, recovered := false }] w
    | _ => False
  | .typeAssert x xt t ok => RunV P (Instr.typeAssert (ρ.ev x) xt t ok) w fun v w' => Dec (T type) v fun v => k v w'
  | .mapUpdate t m i x => RunU P (Instr.mapUpdate t (ρ.ev m) (ρ.ev i) (ρ.ev x)) w fun w' => k undef w'
  | .insert t m i x => RunU P (Instr.mapUpdate t (ρ.ev m) (ρ.ev i) (ρ.ev x)) w fun w' => k undef w'
  | .call { callee := .builtin .copy, args, argTypes } => RunV P (Builtin.copy_ argTypes type (mapA ρ.ev args)) w k
  | .call { callee := .builtin .clear, args, argTypes } => RunV P (Builtin.clear_ argTypes type (mapA ρ.ev args)) w k
  | .lookup t x i ok => RunV P (Instr.lookup t (ρ.ev x) (ρ.ev i) ok) w fun v w' => Dec (T type) v fun v => k v w'
  | .call { callee := .builtin .append, args, argTypes } => RunV P (Builtin.append_ argTypes type (mapA ρ.ev args)) w fun v w' => Dec (T type) v fun v => k v w'
  | .call { callee := .value (.func g), args, argTypes := _ } => bif B g then Calls P g (callA #[] args ρ #[]) w (Ret (fun v w' => Dec (T type) v fun v => k v w') kp) else False
  | .call { callee := .value f, args, argTypes := _ } => match ρ.ev f with
    | .func (.func g) first cap => B g = true ∧ Calls P g (callA first args ρ cap) w (Ret (fun v w' => Dec (T type) v fun v => k v w') kp)
    | .func (.yield l) first _ => first.size = 0 ∧ CallsBody P l (mapA ρ.ev args) w (Ret (fun v w' => Dec (T type) v fun v => k v w') kp)
    | _ => False
  | _ => False

def opP (P : Program) (T : Nat → Option TK) (B : Nat → Bool) (o : Op) (type : Nat) (ρ : Env) (w : World) (k : Value → World → Prop) (kp : List PanicEntry → World → Prop) : Prop :=
  match pureV T o ρ with
  | some v => k v w
  | none => effP P T B o type ρ w k kp

/-! ## Regions -/
def dstAt (ops : Array Oper) (j : Nat) : Option Nat := (ops[j]?).bind (·.dst)
/-- A region, in the order of the text. A guard that is met is written into the environment, so that it is decided once. -/
def opsP (P : Program) (T : Nat → Option TK) (B : Nat → Bool) (ops : Array Oper) (kp : List PanicEntry → World → Prop) (kn : Env → World → Prop) : List Oper → Env → World → Prop
  | [], ρ, w => kn ρ w
  | o :: rest, ρ, w => match o.guard with
    | none => opP P T B o.op o.type ρ w (fun v w' => opsP P T B ops kp kn rest (ρ.put o.dst v) w') kp
    | some (j, want) => match dstAt ops j with
      | some d => match ρ d with
        | .bool b => if b = true
            then bif want then opP P T B o.op o.type (ρ.set d (.bool true)) w (fun v w' => opsP P T B ops kp kn rest ((ρ.set d (.bool true)).put o.dst v) w') kp
              else opsP P T B ops kp kn rest ((ρ.set d (.bool true)).put o.dst undef) w
            else bif want then opsP P T B ops kp kn rest ((ρ.set d (.bool false)).put o.dst undef) w
              else opP P T B o.op o.type (ρ.set d (.bool false)) w (fun v w' => opsP P T B ops kp kn rest ((ρ.set d (.bool false)).put o.dst v) w') kp
        | .tuple _ => opsP P T B ops kp kn rest (ρ.put o.dst undef) w
        | _ => False
      | none => False

/-! ## Code -/
def LoopP {S : Type} (body : (S → World → Prop) → S → World → Prop) (s : S) (w : World) : Prop :=
  ∃ I : Nat → S → World → Prop, (∃ n, I n s w) ∧ ∀ n s w, I n s w → body (fun s' w' => ∃ m, m < n ∧ I m s' w') s w

/-- What a loop changes from round to round, as data. -/
def TyOf : TK → Type
  | .int _ => Int
  | .bool => Bool
  | .str => ByteArray
  | .slice _ _ => Option Addr × Nat × Nat
  | .ptr => Option Addr
  | .fn => Nat × Array Value × Array Value
  | .agg _ _ _ => Array Value
  | .arr _ _ _ _ => Array Value
  | .opaque1 => Value
  | .tup _ => Value
def encTK : (t : TK) → TyOf t → Value
  | .int k, n => .int k n
  | .bool, b => .bool b
  | .str, s => .string s
  | .slice _ _, (A, n, c) => .slice A n c
  | .ptr, p => .pointer p
  | .fn, (g, fi, ca) => .func (.func g) fi ca
  | .agg _ _ _, cs => .agg cs
  | .arr _ _ _ _, cs => .agg cs
  | .opaque1, v => v
  | .tup _, v => v
def StOf : List (Nat × TK) → Type
  | [] => Unit
  | (_, t) :: r => TyOf t × StOf r
def encOf : (l : List (Nat × TK)) → StOf l → List Value
  | [], _ => []
  | (_, t) :: r, s => encTK t s.1 :: encOf r s.2
def wr : List Nat → List Value → Env → Env
  | d :: ds, v :: vs, ρ => (wr ds vs ρ).set d v
  | _, _, ρ => ρ
def tmpOf : Operand → Option Nat
  | .tmp d => some d
  | _ => none

def codeP (P : Program) (T : Nat → Option TK) (B : Nat → Bool) (D : Nat → Array Oper → (List PanicEntry → World → Prop) → (Env → World → Prop) → Env → World → Prop)
    (A : Nat → List (Nat × TK) × List Nat) (kp : List PanicEntry → World → Prop) (kr : Env → World → Prop) :
    Code → Nat → (Nat → Env → World → Prop) → (Env → World → Prop) → Env → World → Prop
  | .skip, _, _, kn, ρ, w => kn ρ w
  | .region _ ops false, _, _, kn, ρ, w => opsP P T B ops kp kn ops.toList ρ w
  | .region id ops true, _, _, kn, ρ, w => D id ops kp kn ρ w
  | .seq a b, i, kx, kn, ρ, w => codeP P T B D A kp kr a i kx (fun ρ w => codeP P T B D A kp kr b i kx kn ρ w) ρ w
  | .cond c a b, i, kx, kn, ρ, w => match ρ.ev c with
    | .bool t => if t = true then codeP P T B D A kp kr a i kx kn (ρ.put (tmpOf c) (.bool true)) w else codeP P T B D A kp kr b i kx kn (ρ.put (tmpOf c) (.bool false)) w
    | _ => False
  | .block id c, _, kx, kn, ρ, w => codeP P T B D A kp kr c id (fun i => bif Nat.beq i id then kn else kx i) kn ρ w
  | .loop c, i, kx, _, ρ, w => ∃ s0 : StOf (A i).1, (A i).1.map (fun x => ρ x.1) = encOf (A i).1 s0 ∧
      LoopP (fun again s w => ∀ r : Env, codeP P T B D A kp kr c i kx (fun ρ' w' => ∃ s' : StOf (A i).1, (A i).1.map (fun x => ρ' x.1) = encOf (A i).1 s' ∧ again s' w')
        (wr ((A i).1.map (·.1)) (encOf (A i).1 s) (wr (A i).2 ((A i).2.map ρ) r)) w) s0 w
  | .exit id, _, kx, _, ρ, w => kx id ρ w
  | .ret, _, _, _, ρ, w => kr ρ w
  | _, _, _, _, _, _ => False

end Go.GX
