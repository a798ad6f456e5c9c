/- What has to hold for a run to end as wanted, over abstract values: by the code's own shape. No statement of its own. -/
import Derived.Test.YtfhodppaelfcfaaDoorVa
namespace Go.Proofs.YtfhodppaelfcfaaDoor
open Go.RowKit

structure TI where
  desc : TypeDesc
  size : Nat
  bytes : Nat
  zero : List Value
abbrev Tab := TypeId → Option TI
def isAggD : TypeDesc → Bool
  | .struct _ => true
  | .array _ _ => true
  | _ => false

def cnd (b : Bool) (A B : Prop) : Prop := match b with | true => A | false => B
theorem cnd_split {b : Bool} {A B : Prop} (h1 : b = true → A) (h2 : b = false → B) : cnd b A B := by
  cases b
  · exact h2 rfl
  · exact h1 rfl

/-- the value, looked at -/
def AV.fc (a : AV) (K : AV → Prop) : Prop :=
  match a with
  | .top => K .top
  | .lit v => K (.lit v)
  | .sl t sz es => K (.sl t sz es)
  | .ptr p off => K (.ptr p off)
  | .elt es => K (.elt es)
  | .fn f us vs => K (.fn f us vs)
  | .agg cs => K (.agg cs)
  | .tup vs => K (.tup vs)
  | .hs p lo n cap sz => K (.hs p lo n cap sz)
theorem AV.fc_iff {a : AV} {K : AV → Prop} : a.fc K ↔ K a := by cases a <;> rfl
/-- the values of a list, looked at -/
def listK : List AV → (List AV → Prop) → Prop
  | [], K => K []
  | a :: r, K => a.fc fun a' => listK r fun r' => K (a' :: r')
theorem listK_iff : ∀ {l : List AV} {K : List AV → Prop}, listK l K ↔ K l
  | [], _ => Iff.rfl
  | a :: r, K => by
    unfold listK
    rw [AV.fc_iff]
    exact listK_iff
def listLK : List (List AV) → (List (List AV) → Prop) → Prop
  | [], K => K []
  | a :: r, K => listK a fun a' => listLK r fun r' => K (a' :: r')
theorem listLK_iff : ∀ {l : List (List AV)} {K : List (List AV) → Prop}, listLK l K ↔ K l
  | [], _ => Iff.rfl
  | a :: r, K => by
    unfold listLK
    rw [listK_iff]
    exact listLK_iff
def setK : Fr → Nat → AV → (Fr → Prop) → Prop
  | [], _, _, K => K []
  | _ :: r, 0, v, K => K (v :: r)
  | a :: r, n + 1, v, K => setK r n v fun r' => K (a :: r')
theorem setK_iff : ∀ {fr : Fr} {i : Nat} {v : AV} {K : Fr → Prop}, setK fr i v K ↔ K (fr.set i v)
  | [], _, _, _ => Iff.rfl
  | _ :: _, 0, _, _ => Iff.rfl
  | a :: r, n + 1, v, K => by
    unfold setK
    exact setK_iff

/-- the variables that were are as they were -/
def Pre (st st' : St) : Prop := ∃ l, st'.heap = st.heap ++ l
theorem Pre.refl (st : St) : Pre st st := ⟨[], by simp⟩
theorem Pre.trans {a b c : St} (h : Pre a b) (g : Pre b c) : Pre a c := by
  obtain ⟨l, h⟩ := h
  obtain ⟨m, g⟩ := g
  exact ⟨l ++ m, by rw [g, h, List.append_assoc]⟩
theorem Pre.at' {a b : St} (h : Pre a b) {p : Nat} {cs : List AV} (hp : a.heap[p]? = some cs) : b.heap[p]? = some cs := by
  obtain ⟨l, h⟩ := h
  rw [h, List.getElem?_append_left (List.getElem?_eq_some_iff.1 hp).1]
  exact hp

def setAll : List AV → Nat → List AV → List AV
  | cs, _, [] => cs
  | cs, off, v :: vs => setAll (cs.set off v) (off + 1) vs

def binInt (op : BinOp) (k : IntKind) (a b : Int) (K : AV → Prop) : Prop :=
  match op with
  | .add => ∀ c, c = k.wrap (a + b) → K (.int k c)
  | .sub => ∀ c, c = k.wrap (a - b) → K (.int k c)
  | .mul => ∀ c, c = k.wrap (a * b) → K (.int k c)
  | .quo => b ≠ 0 ∧ ∀ c, c = k.wrap (a.tdiv b) → K (.int k c)
  | .rem => b ≠ 0 ∧ K (.int k (a.tmod b))
  | .eql => K (.b (a == b))
  | .neq => K (.b (a != b))
  | .lss => K (.b (decide (a < b)))
  | .leq => K (.b (decide (a ≤ b)))
  | .gtr => K (.b (decide (a > b)))
  | .geq => K (.b (decide (a ≥ b)))
  | .and => ∀ c, c = k.wrap ((BitVec.ofInt k.bits a &&& BitVec.ofInt k.bits b).toNat : Int) → K (.int k c)
  | .shr => 0 ≤ b ∧ ∀ c, c = a.fdiv (2 ^ min b.toNat k.bits) → K (.int k c)
  | _ => False
def binStr (op : BinOp) (a b : ByteArray) (K : AV → Prop) : Prop :=
  match op with
  | .add => a.size + b.size ≤ maxLen ∧ K (.s (a ++ b))
  | .eql => ∀ t : Bool, (t = true ↔ a = b) → K (.b t)
  | .neq => ∀ t : Bool, (t = false ↔ a = b) → K (.b t)
  | .lss => K (.b (Op.bytesLess a.toList b.toList))
  | .gtr => ∀ t : Bool, t = (!(Op.bytesLess a.toList b.toList || a.toList == b.toList)) → K (.b t)
  | .leq => ∀ t : Bool, t = (Op.bytesLess a.toList b.toList || a.toList == b.toList) → K (.b t)
  | .geq => K (.b (!(Op.bytesLess a.toList b.toList)))
  | _ => False
def eqlB (op : BinOp) (t : Bool) (K : AV → Prop) : Prop :=
  match op with
  | .eql => K (.b t)
  | .neq => K (.b (!t))
  | _ => False
/-- two plain values of a type are the same -/
def cellEq (d : Option TypeDesc) (x y : Option AV) : Option Prop :=
  match d, x, y with
  | some (.int _), some (.lit (.int k a)), some (.lit (.int k' b)) => match decide (k = k') with | true => some (a = b) | false => none
  | some .string, some (.lit (.string a)), some (.lit (.string b)) => some (a = b)
  | some .bool, some (.lit (.bool a)), some (.lit (.bool b)) => some (a = b)
  | _, _, _ => none
def cellsEq (T : Tab) (cs ds : List AV) : List Go.Field → Option Prop
  | [] => some True
  | f :: fs => match f.name == "_", cellEq ((T f.type).map TI.desc) cs[f.offset]? ds[f.offset]? with
    | false, some A => match cellsEq T cs ds fs with
      | some B => some (A ∧ B)
      | none => none
    | _, _ => none
def vcBin (P : Program) (T : Tab) (op : BinOp) (t : TypeId) (x y : AV) (K : AV → Prop) : Prop :=
  match x, y with
  | .agg cs, .agg ds => match (T t).map TI.desc with
    | some (.struct fs) => (P.stoodInHeld t || P.eqGuardType P.depth t) = false ∧ match cellsEq T cs ds fs.toList with
      | some A => ∀ q : Bool, (q = true ↔ A) → eqlB op q K
      | none => False
    | _ => False
  | .lit (.int k a), .lit (.int k' b) => match decide (k = k') with | true => binInt op k a b K | false => False
  | .lit (.string a), .lit (.string b) => binStr op a b K
  | .lit (.bool a), .lit (.bool b) => match (T t).map TI.desc with | some .bool => eqlB op (a == b) K | _ => False
  | .ptr _ _, .lit (.pointer none) => match (T t).map TI.desc with | some (.pointer _) => eqlB op false K | _ => False
  | .lit (.pointer none), .lit (.pointer none) => match (T t).map TI.desc with | some (.pointer _) => eqlB op true K | _ => False
  | .lit (.slice none _ _), .lit (.slice none _ _) => match (T t).map TI.desc with | some (.slice _) => eqlB op true K | _ => False
  | .hs _ _ _ _ _, .lit (.slice none _ _) => match (T t).map TI.desc with | some (.slice _) => eqlB op false K | _ => False
  | .lit (.slice (some _) _ _), .lit (.slice none _ _) => match (T t).map TI.desc with | some (.slice _) => eqlB op false K | _ => False
  | .sl _ _ (_ :: _), .lit (.slice none _ _) => match (T t).map TI.desc with | some (.slice _) => eqlB op false K | _ => False
  | .lit .nilFunc, .lit .nilFunc => match (T t).map TI.desc with | some (.func _ _ _) => eqlB op true K | _ => False
  | .lit (.func _ _ _), .lit .nilFunc => match (T t).map TI.desc with | some (.func _ _ _) => eqlB op false K | _ => False
  | .fn _ _ _, .lit .nilFunc => match (T t).map TI.desc with | some (.func _ _ _) => eqlB op false K | _ => False
  | _, _ => False
def vcUn (op : UnOp) (x : AV) (K : AV → Prop) : Prop :=
  match op, x with
  | .not, .lit (.bool b) => K (.b (!b))
  | .neg, .lit (.int k n) => ∀ c, c = k.wrap (0 - n) → K (.int k c)
  | _, _ => False

/-- a part of a variable -/
def ldA (i : TI) (cs : List AV) (off : Nat) (K : AV → Prop) : Prop :=
  match isAggD i.desc with
  | true => match decide (off + i.size ≤ cs.length) with | true => listK ((cs.drop off).take i.size) fun vs => K (.agg vs) | false => False
  | false => match cs[off]? with | some c => K c | none => False

def fieldsIn (T : Tab) (fs : Array Go.Field) : Bool := fs.toList.all fun f => (T f.type).isSome
def fillA (T : Tab) (fs : Array Go.Field) : List (Nat × AV) → List AV → Option (List AV)
  | [], cs => some cs
  | (i, v) :: r, cs =>
    match fs[i]? with
    | none => none
    | some f => match T f.type with
      | none => none
      | some fi => match decide (v.cells.length = fi.size) && decide (f.offset + fi.size ≤ cs.length) && v.sized && v.cells.all AV.cell with
        | true => fillA T fs r (setAll cs f.offset v.cells)
        | false => none
def fillE (sz : Nat) : List (Nat × AV) → List (List AV) → Option (List (List AV))
  | [], es => some es
  | (i, v) :: r, es =>
    match decide (i < es.length) && decide (v.cells.length = sz) && v.sized && (v.cells.map AV.strip).all AV.flat with
    | true => fillE sz r (es.set i (v.cells.map AV.strip))
    | false => none

def vcExt (x : AV) (i : Nat) (K : AV → Prop) : Prop :=
  match x with
  | .tup vs => match vs[i]? with | some v => K v | none => False
  | _ => False
def vcLenS (x : AV) (K : AV → Prop) : Prop :=
  match x with
  | .lit (.string s) => K (.i s.size)
  | _ => False
def vcLenL (x : AV) (K : AV → Prop) : Prop :=
  match x with
  | .sl _ _ es => K (.i es.length)
  | .lit (.slice none n _) => K (.i n)
  | .hs _ _ n _ _ => K (.i n)
  | _ => False

/-- so many elements that are zero -/
def zerosL (z : List Value) (n : Nat) : List AV := (List.range (n * z.length)).map fun q => .lit (z.getD (q % z.length) undef)
/-- a variable's cells, read as a row -/
structure Seen (cs : List AV) (lo n sz : Nat) (es : List (List AV)) : Prop where
  len : es.length = n
  el : ∀ (k : Nat) (e : List AV), es[k]? = some e → e.length = sz ∧ e.all AV.flat = true
  at' : ∀ (k : Nat) (e : List AV) (j : Nat) (a : AV), es[k]? = some e → e[j]? = some a → cs[lo + k * sz + j]? = some a

/-- what is appended -/
def srcA (st : St) (x : AV) (sz : Nat) (K : List (List AV) → Prop) : Prop :=
  match x with
  | .hs p lo n _ sz' => match decide (sz' = sz) with | true => ∃ cs es, st.heap[p]? = some cs ∧ Seen cs lo n sz es ∧ K es | false => False
  | .sl _ sz' es => match decide (sz' = sz) with | true => K es | false => False
  | .lit (.slice _ 0 _) => K []
  | .lit (.string s) => match decide (sz = 1) with | true => K (s.data.toList.map fun b => [AV.u8 b]) | false => False
  | _ => False
def vcApp (i : TI) (s x : AV) (st : St) (K : AV → St → Prop) : Prop :=
  srcA st x i.size fun ys =>
  match s with
  | .lit (.slice none 0 0) => (ys = [] → K s st) ∧ (ys ≠ [] → ys.length * i.bytes ≤ 140737488355328 ∧ ys.length ≤ maxLen ∧ (K (.sl (.own st.tk.length ys.length) i.size ys) ⟨st.heap, st.tk ++ [ys.length]⟩ ∨ (i.zero.all Value.oneCell' = true ∧ ∀ x, ys.length + x ≤ maxLen → K (.hs st.heap.length 0 ys.length (ys.length + x) i.size) ⟨st.heap ++ [ys.flatten ++ zerosL i.zero x], st.tk⟩)))
  | .hs p lo n cap sz => match decide (sz = i.size) && i.zero.all Value.oneCell' with
    | true => (ys = [] → K s st) ∧ (ys ≠ [] → (n + ys.length) * i.bytes ≤ 140737488355328 ∧ n + ys.length ≤ maxLen ∧ ∃ cs es, st.heap[p]? = some cs ∧ Seen cs lo n sz es ∧
      (n + ys.length ≤ cap → lo + (n + ys.length) * sz ≤ cs.length ∧ K (.hs p lo (n + ys.length) cap sz) ⟨st.heap.set p (setAll cs (lo + n * sz) ys.flatten), st.tk⟩) ∧
      (cap < n + ys.length → ∀ x, n + ys.length + x ≤ maxLen → K (.hs st.heap.length 0 (n + ys.length) (n + ys.length + x) sz) ⟨st.heap ++ [(es ++ ys).flatten ++ zerosL i.zero x], st.tk⟩))
    | false => False
  | .sl .tight sz [] => match decide (sz = i.size) && i.zero.all Value.oneCell' with
    | true => (ys = [] → K s st) ∧ (ys ≠ [] → ys.length * i.bytes ≤ 140737488355328 ∧ ys.length ≤ maxLen ∧ (K (.sl (.own st.tk.length ys.length) i.size ys) ⟨st.heap, st.tk ++ [ys.length]⟩ ∨ ∀ x, ys.length + x ≤ maxLen → K (.hs st.heap.length 0 ys.length (ys.length + x) sz) ⟨st.heap ++ [ys.flatten ++ zerosL i.zero x], st.tk⟩))
    | false => False
  | .sl .tight sz es => match decide (sz = i.size) with
    | true => (ys = [] → K s st) ∧ (ys ≠ [] → (es.length + ys.length) * i.bytes ≤ 140737488355328 ∧ es.length + ys.length ≤ maxLen ∧ K (.sl (.own st.tk.length (es.length + ys.length)) i.size (es ++ ys)) ⟨st.heap, st.tk ++ [es.length + ys.length]⟩)
    | false => False
  | .sl (.own t e) sz es => match decide (sz = i.size) with
    | true => st.tk[t]? = some e ∧ (es.length + ys.length) * i.bytes ≤ 140737488355328 ∧ es.length + ys.length ≤ maxLen ∧ K (.sl (.own t (e + ys.length)) i.size (es ++ ys)) ⟨st.heap, st.tk.set t (e + ys.length)⟩
    | false => False
  | _ => False

def bndA (x : Option AV) (d : Nat) (K : Nat → Prop) : Prop :=
  match x with
  | none => K d
  | some (.lit (.int _ n)) => ∃ k : Nat, n = (k : Int) ∧ K k
  | _ => False
def vcSlice (T : Tab) (t : TypeId) (x : AV) (lo hi : Option AV) (K : AV → Prop) : Prop :=
  match (T t).map TI.desc with
  | some .string => match x with
    | .lit (.string s) => bndA hi s.size fun h => bndA lo 0 fun l => l ≤ h ∧ h ≤ s.size ∧ K (.s (s.extract l h))
    | _ => False
  | some (.slice e) => match (T e).map TI.size with
    | none => False
    | some sz' => match x with
      | .sl tg sz es => match decide (sz' = sz) with
        | true => match hi, tg with
          | none, .own i v => bndA lo 0 fun l => l ≤ es.length ∧ K (.sl (.own i v) sz (es.drop l))
          | _, _ => bndA hi es.length fun h => bndA lo 0 fun l => l ≤ h ∧ h ≤ es.length ∧ K (.sl .no sz ((es.drop l).take (h - l)))
        | false => False
      | .lit (.slice none 0 0) => bndA hi 0 fun h => bndA lo 0 fun l => l = 0 ∧ h = 0 ∧ K (.lit (.slice none 0 0))
      | .hs p lw n cap sz => match decide (sz' = sz) with
        | true => bndA hi n fun h => bndA lo 0 fun l => l ≤ h ∧ h ≤ cap ∧ ∀ lo', lo' = (if cap = l then lw else lw + l * sz) → K (.hs p lo' (h - l) (cap - l) sz)
        | false => False
      | _ => False
  | some (.array n e) => match (T e).map TI.size, decide (n ≤ maxLen) with
    | some sz, true => match x with
      | .ptr p lw => bndA hi n fun h => bndA lo 0 fun l => l ≤ h ∧ h ≤ n ∧ ∀ lo', lo' = (if n = l then lw else lw + l * sz) → K (.hs p lo' (h - l) (n - l) sz)
      | _ => False
    | _, _ => False
  | _ => False

/-- the table says what the program says -/
def Tab.Ok (P : Program) (T : Tab) : Prop := ∀ t i, T t = some i → P.underlying t = some i.desc ∧ ∃ inf z, P.info? t = some inf ∧ inf.zero = some z ∧ z.cells = i.zero.toArray ∧ inf.size = i.size ∧ inf.bytes = i.bytes ∧ i.zero.length = i.size

section
variable (P : Program) (T : Tab)

/-- a call, over abstract values -/
def ACalls (f : FuncId) (args : List AV) (st : St) (R : AV → St → Prop) : Prop :=
  (∀ (zs : Array Value) (w : World), (callFunc f zs).run P w = .ok (.enter f zs) w) ∧ ∀ (base : Nat) (J : Nat → Nat → Prop) (w0 : World) (μ : Nat → Nat) (σ : Nat → Tkt) (w : World) (vs : Array Value),
    Ok base J w0 st μ σ w → args.length = vs.size → (∀ (j : Nat) a v, args[j]? = some a → vs[j]? = some v → At base J st μ σ w a v) →
    Calls P f vs w fun e w' => ∃ v r st' μ' σ', e = .returned v ∧ R r st' ∧ Ok base J w0 st' μ' σ' w' ∧ Ext base J st μ σ w st' μ' σ' w' ∧ At base J st' μ' σ' w' r v

def AV.shift (k : Nat) : AV → AV
  | .sl (.own t e) sz es => .sl (.own (k + t) e) sz es
  | a => a
def AV.shiftR (k : Nat) : AV → AV
  | .tup vs => .tup (vs.map (AV.shift k))
  | a => a.shift k
def AV.datA : AV → Bool
  | .sl (.own _ _) _ _ => true
  | a => a.dat
/-- a result that needs nothing but its tickets -/
def AV.res : AV → Bool
  | .tup vs => vs.all AV.datA
  | a => a.datA

/-- a call of a function that sees nothing but data: its result, and the tickets that it hands on -/
def APure (f : FuncId) (args : List AV) (r : AV) (ns : List Nat) : Prop :=
  r.res = true ∧ (∀ (zs : Array Value) (w : World), (callFunc f zs).run P w = .ok (.enter f zs) w) ∧ ∀ (J : Nat → Nat → Prop) (w : World) (vs : Array Value), (∀ w', Below w.heap.size w w' → LaidW w') →
    args.length = vs.size → (∀ (j : Nat) a v, args[j]? = some a → vs[j]? = some v → At w.heap.size J ⟨[], []⟩ (fun _ => 0) (fun _ => ⟨0, 0, 0⟩) w a v) →
    Calls P f vs w fun e w' => ∃ v σ', e = .returned v ∧ Ok w.heap.size J w ⟨[], ns⟩ (fun _ => 0) σ' w' ∧ At w.heap.size J ⟨[], ns⟩ (fun _ => 0) σ' w' r v

/-- an argument, said less of: without its ticket; a struct's cells without theirs; or nil as an empty slice -/
def cellW (a a' : AV) : Prop := (a' = a.strip ∧ a'.flat = true) ∨ (a = .nilS ∧ ∃ sz, a' = .sl .no sz [])
def CellsW : List AV → List AV → Prop
  | [], [] => True
  | a :: r, a' :: r' => cellW a a' ∧ CellsW r r'
  | _, _ => False
def argW (a a' : AV) : Prop := ((a' = a.strip ∧ a'.dat = true) ∨ ∃ cs cs', a = .agg cs ∧ a' = .agg cs' ∧ CellsW cs cs') ∨ (a = .nilS ∧ ∃ sz, a' = .sl .no sz [])
def AV.datG : AV → Bool
  | .agg _ => true
  | a => a.datA
def ArgsW : List AV → List AV → Prop
  | [], [] => True
  | a :: r, a' :: r' => argW a a' ∧ ArgsW r r'
  | _, _ => False
inductive VCall (f : FuncId) (args : List AV) (st : St) (K : AV → St → Prop) : Prop
  | p {r : AV} (hd : args.all AV.datA = true) (h : APure P f (args.map AV.strip) r []) (hk : K r st) : VCall f args st K
  | w {args' : List AV} {r : AV} (hd : args.all AV.datG = true) (hw : ArgsW args args') (h : APure P f args' r []) (hk : K r st) : VCall f args st K
  | t {args' : List AV} {r : AV} {ns : List Nat} (hd : args.all AV.datG = true) (hw : ArgsW args args') (h : APure P f args' r ns) (hk : K (r.shiftR st.tk.length) ⟨st.heap, st.tk ++ ns⟩) : VCall f args st K
  | s (h : ACalls P f args st K) : VCall f args st K

def minA (op : Int → Int → Int) (x : AV) : List AV → (AV → Prop) → Prop
  | [], K => K x
  | y :: r, K => match x, y with
    | .lit (.int k a), .lit (.int _ b) => minA op (.int k (op a b)) r K
    | _, _ => False

/-- pointers among these are to older variables than p -/
def olderA (p : Nat) : List AV → Prop → Prop
  | [], K => K
  | .ptr q _ :: r, K => q < p ∧ olderA p r K
  | .hs q _ _ _ _ :: r, K => q < p ∧ olderA p r K
  | .fn _ _ _ :: _, _ => False
  | _ :: r, K => olderA p r K
theorem olderA_iff {p : Nat} : ∀ {cs : List AV} {K : Prop}, olderA p cs K ↔ (∀ c ∈ cs, c.older p = true) ∧ K
  | [], K => by simp [olderA]
  | c :: r, K => by
    have ih := @olderA_iff p r K
    cases c <;> simp [olderA, AV.older, ih, and_assoc]

def vcOp (o : Op) (ρ : Operand → AV) (st : St) (K : AV → St → Prop) : Prop :=
  match o with
  | .move x => (ρ x).fc fun v => K v st
  | .assign x => (ρ x).fc fun v => K v st
  | .pick c a b => match ρ c with | .lit (.bool t) => cnd t ((ρ a).fc fun v => K v st) ((ρ b).fc fun v => K v st) | _ => False
  | .binOp op t x y _ => vcBin P T op t (ρ x) (ρ y) fun v => K v st
  | .unOp op _ x => vcUn op (ρ x) fun v => K v st
  | .extract x i => vcExt (ρ x) i fun v => K v st
  | .load t a => match T t with
    | none => False
    | some i => match ρ a with
      | .ptr p off => ∃ cs, st.heap[p]? = some cs ∧ ldA i cs off fun v => K v st
      | .elt es => ldA i es 0 fun v => K v st
      | _ => False
  | .store t a x => match T t with
    | none => False
    | some i => match ρ a with
      | .ptr p off => match (ρ x).sized && decide ((ρ x).cells.length = i.size) && (ρ x).cells.all AV.cell with
        | true => ∃ cs, st.heap[p]? = some cs ∧ match decide (off + i.size ≤ cs.length) with | true => listK (setAll cs off (ρ x).cells) fun cs' => K .un ⟨st.heap.set p cs', st.tk⟩ | false => False
        | false => False
      | _ => False
  | .alloc t => match T t with
    | none => False
    | some i => match i.zero.all Value.oneCell' with
      | true => listK (i.zero.map AV.lit) fun cs => K (.ptr st.heap.length 0) ⟨st.heap ++ [cs], st.tk⟩
      | false => False
  | .box _ x => match (ρ x).sized && (ρ x).cells.all AV.cell with
    | true => olderA st.heap.length (ρ x).cells (listK (ρ x).cells fun cs => K (.ptr st.heap.length 0) ⟨st.heap ++ [cs], st.tk⟩)
    | false => False
  | .build t parts => match T t with
    | none => False
    | some i => match i.desc with
      | .struct fs => match fieldsIn T fs with
        | true => match fillA T fs (parts.toList.map fun p => (p.1, ρ p.2)) (i.zero.map AV.lit) with
          | some cs => listK cs fun cs => K (.agg cs) st
          | none => False
        | false => False
      | _ => False
  | .buildSlice t len parts => match (T t).map TI.desc with
    | some (.slice e) => match T e with
      | none => False
      | some i => match decide (len * i.size ≤ 16777216) && decide (0 < i.size) && decide (i.zero.length = i.size) && (i.zero.map AV.lit).all AV.flat with
        | true => match fillE i.size (parts.toList.map fun p => (p.1, ρ p.2)) (List.replicate len (i.zero.map AV.lit)) with
          | some es => listLK es fun es => K (.sl .tight i.size es) st
          | none => False
        | false => False
    | _ => False
  | .nilCheck x => match ρ x with
    | .ptr p off => K (.ptr p off) st
    | .elt es => K (.elt es) st
    | .lit (.func (.func f) us vs) => K (.lit (.func (.func f) us vs)) st
    | .fn (.func f) us vs => K (.fn (.func f) us vs) st
    | _ => False
  | .fieldAddr s x f => match (T s).map TI.desc with
    | some (.struct fs) => match fs[f]? with
      | some fd => match (T fd.type).map TI.size with
        | some (_ + 1) => match ρ x with
          | .ptr p off => K (.ptr p (off + fd.offset)) st
          | .elt es => K (.elt (es.drop fd.offset)) st
          | _ => False
        | _ => False
      | none => False
    | _ => False
  | .field s x f => match (T s).map TI.desc with
    | some (.struct fs) => match fs[f]? with
      | some fd => match T fd.type with
        | some i => match ρ x with
          | .agg cs => ldA i cs fd.offset fun v => K v st
          | _ => False
        | none => False
      | none => False
    | _ => False
  | .indexAddr t x ix => match (T t).map TI.desc with
    | some (.slice e) => match ρ x with
      | .sl _ sz es => match ρ ix with
        | .lit (.int _ i) => match decide ((T e).map TI.size = some sz) with
          | true => ∃ (j : Nat) (e : List AV), i = (j : Int) ∧ es[j]? = some e ∧ K (.elt e) st
          | false => False
        | _ => False
      | .hs p lo n _ sz => match ρ ix with
        | .lit (.int _ i) => match decide ((T e).map TI.size = some sz) with
          | true => ∃ (j : Nat), i = (j : Int) ∧ j < n ∧ K (.ptr p (lo + j * sz)) st
          | false => False
        | _ => False
      | _ => False
    | some (.array n e) => match ρ x with
      | .ptr p lo => match ρ ix with
        | .lit (.int _ i) => match (T e).map TI.size with
          | some sz => ∃ (j : Nat), i = (j : Int) ∧ j < n ∧ K (.ptr p (lo + j * sz)) st
          | none => False
        | _ => False
      | _ => False
    | _ => False
  | .index t x ix => match (T t).map TI.desc with
    | some .string => match ρ x with
      | .lit (.string s) => match ρ ix with
        | .lit (.int _ i) => ∃ (j : Nat) (h : j < s.size), i = (j : Int) ∧ K (.u8 s[j]) st
        | _ => False
      | _ => False
    | _ => False
  | .slice t x lo hi none => vcSlice T t (ρ x) (lo.map ρ) (hi.map ρ) fun v => K v st
  | .makeFunc f first captured => K (.fn f (first.toList.map ρ) (captured.toList.map ρ)) st
  | .convert src dst x => match (T src).map TI.desc with
    | none => False
    | some ds => match (T dst).map TI.desc with
      | some (.int k) => match ρ x with
        | .lit (.int _ n) => ∀ c, c = k.wrap n → K (.int k c) st
        | _ => False
      | some .string => match ds with
        | .string => match ρ x with
          | .lit (.string s) => K (.s s) st
          | _ => False
        | .slice e => match (T e).map TI.desc with
          | some (.int .u8) => match ρ x with
            | .sl _ sz es => match decide (sz = 1) with
              | true => ∃ b : ByteArray, es = (b.data.toList.map fun c => [AV.u8 c]) ∧ K (.s b) st
              | false => False
            | .lit (.slice none _ _) => K (.s .empty) st
            | .hs p lo n _ sz => match decide (sz = 1) with
              | true => ∃ (cs : List AV) (b : ByteArray), st.heap[p]? = some cs ∧ b.size = n ∧ (∀ j (hj : j < b.size), cs[lo + j]? = some (.u8 b[j])) ∧ K (.s b) st
              | false => False
            | _ => False
          | _ => False
        | _ => False
      | some (.slice e) => match ds with
        | .string => match (T e).map TI.desc with
          | some (.int .u8) => match ρ x with
            | .lit (.string s) => s.size ≤ maxLen ∧ K (.sl .no 1 (s.data.toList.map fun c => [AV.u8 c])) st
            | _ => False
          | _ => False
        | _ => False
      | _ => False
  | .call c => match c.callee with
    | .builtin .len => match c.args.toList with | [x] => (match (c.argTypes[0]?).bind T |>.map TI.desc with | some .string => vcLenS (ρ x) fun v => K v st | some (.slice _) => vcLenL (ρ x) fun v => K v st | _ => False) | _ => False
    | .builtin .min => match c.args.toList with | x :: r => minA (fun a b => if b < a then b else a) (ρ x) (r.map ρ) fun v => K v st | [] => False
    | .builtin .max => match c.args.toList with | x :: r => minA (fun a b => if b > a then b else a) (ρ x) (r.map ρ) fun v => K v st | [] => False
    | .builtin .clear => match c.args.toList with
      | [x] => match (c.argTypes[0]?).bind T |>.map TI.desc with
        | some (.slice e) => match T e with
          | some i => match ρ x with
            | .hs p lo n _ sz => match decide (sz = i.size) && i.zero.all Value.oneCell' with
              | true => ∃ cs, st.heap[p]? = some cs ∧ lo + n * sz ≤ cs.length ∧ K (.lit (.tuple #[])) ⟨st.heap.set p (setAll cs lo (zerosL i.zero n)), st.tk⟩
              | false => False
            | _ => False
          | none => False
        | _ => False
      | _ => False
    | .builtin .append => match c.args.toList with
      | [s, x] => match (c.argTypes[0]?).bind T |>.map TI.desc with
        | some (.slice e) => match T e with
          | some i => match (c.argTypes[1]?).bind T |>.map TI.desc with
            | some (.slice _) => vcApp i (ρ s) (ρ x) st K
            | some .string => vcApp i (ρ s) (ρ x) st K
            | _ => False
          | none => False
        | _ => False
      | _ => False
    | .value f => match ρ f with
      | .lit (.func (.func k) us vs) => VCall P k (us.toList.map AV.ofV ++ (c.args.toList.map ρ) ++ vs.toList.map AV.ofV) st K
      | .fn (.func k) us vs => VCall P k (us ++ (c.args.toList.map ρ) ++ vs) st K
      | _ => False
    | _ => False
  | _ => False

def Fr.ev (fr : Fr) : Operand → AV
  | .tmp t => fr.getD t .un
  | .const v => AV.ofV v
  | .func f => .lit (.func (.func f) #[] #[])
  | .global g => .lit (.pointer (some ⟨g, 0, none⟩))
def Fr.put (fr : Fr) (d : Option Tmp) (v : AV) : Fr :=
  match d with
  | some d => fr.set d v
  | none => fr
def Fr.putK (fr : Fr) (d : Option Tmp) (v : AV) (K : Fr → Prop) : Prop :=
  match d with
  | some d => setK fr d v K
  | none => K fr
theorem Fr.putK_iff {fr : Fr} {d : Option Tmp} {v : AV} {K : Fr → Prop} : fr.putK d v K ↔ K (fr.put d v) := by
  cases d with
  | none => exact Iff.rfl
  | some d => exact setK_iff

/-- the guard's answer: goes on with an operation, or passes it over -/
def guardA (ops : Array Oper) (g : Option (Nat × Bool)) (fr : Fr) (A B : Fr → Prop) : Prop :=
  match g with
  | none => A fr
  | some (j, want) => match (ops[j]?).bind (·.dst) with
    | none => False
    | some d => match fr[d]? with
      | some (.lit (.bool b)) => match want with | true => cnd b (setK fr d (.b true) A) (setK fr d (.b false) B) | false => cnd b (setK fr d (.b true) B) (setK fr d (.b false) A)
      | some (.lit (.tuple _)) => B fr
      | _ => False
def vcOper (ops : Array Oper) (o : Oper) (fr : Fr) (st : St) (K : Fr → St → Prop) : Prop :=
  guardA ops o.guard fr (fun fr => vcOp P T o.op fr.ev st fun v st' => fr.putK o.dst v fun fr' => K fr' st') (fun fr => fr.putK o.dst .un fun fr' => K fr' st)
def vcOps (ops : Array Oper) : List Oper → Fr → St → (Fr → St → Prop) → Prop
  | [], fr, st, K => K fr st
  | o :: r, fr, st, K => vcOper P T ops o fr st fun fr' st' => vcOps ops r fr' st' K

/-- whatever order is picked -/
def vcAny (ops : Array Oper) (K : Fr → St → Prop) : Nat → Array Bool → Fr → St → Prop
  | 0, listed, fr, st => match Region.ready .any ops listed with
    | [] => K fr st
    | _ :: _ => False
  | n + 1, listed, fr, st =>
    match Region.ready .any ops listed with
    | [] => K fr st
    | i :: is => ∀ j ∈ i :: is, ∃ o, ops[j]? = some o ∧ vcOper P T ops o fr st fun fr' st' => vcAny ops K n (listed.setIfInBounds j true) fr' st'

def seqQ (K : Fr → St → Prop) (Q : Exit → Fr → St → Prop) : Exit → Fr → St → Prop
  | .normal, fr, st => K fr st
  | e, fr, st => Q e fr st
def blockQ (id : Nat) (Q : Exit → Fr → St → Prop) : Exit → Fr → St → Prop
  | .exit id', fr, st => match decide (id' = id) with | true => Q .normal fr st | false => Q (.exit id') fr st
  | e, fr, st => Q e fr st

/-- b says less than a -/
def AV.le (a b : AV) : Prop := b = a ∨ b = .top ∨ b = a.strip
def dsts (ops : Array Oper) : List Nat := ops.toList.filterMap (·.dst)
def writes : Code → List Nat
  | .region _ ops _ => dsts ops
  | .seq a b => writes a ++ writes b
  | .cond _ a b => writes a ++ writes b
  | .block _ b => writes b
  | .loop b => writes b
  | _ => []
/-- fr' says less than fr, at most in the slots W -/
def Fr.le (W : List Nat) (fr fr' : Fr) : Prop := fr.length = fr'.length ∧ ∀ (i : Nat) a b, fr[i]? = some a → fr'[i]? = some b → b = a ∨ (i ∈ W ∧ a.le b)

/-- the slots outside W are as they were -/
def Keep (W : List Nat) (fr fr' : Fr) : Prop := fr.length = fr'.length ∧ ∀ i, i ∉ W → fr'[i]? = fr[i]?

/-- a call that sees nothing but data, and hands on no ticket -/
inductive callP (f : FuncId) (args : List AV) (st : St) (K : AV → St → Prop) : Prop
  | p {r : AV} (hd : args.all AV.datA = true) (h : APure P f (args.map AV.strip) r []) (hk : K r st) : callP f args st K
  | w {args' : List AV} {r : AV} (hd : args.all AV.datG = true) (hw : ArgsW args args') (h : APure P f args' r []) (hk : K r st) : callP f args st K
/-- an operation of a drawn region: no append to a row that is turned in place -/
def vcOpE (o : Op) (ρ : Operand → AV) (st : St) (K : AV → St → Prop) : Prop :=
  match o with
  | .call c => match c.callee with
    | .builtin .append => match c.args.toList with
      | s :: _ => match ρ s with
        | .hs _ _ _ _ _ => False
        | _ => vcOp P T (.call c) ρ st K
      | _ => False
    | .builtin _ => vcOp P T (.call c) ρ st K
    | _ => False
  | o => vcOp P T o ρ st K
/-- an operation; of calls those alone -/
def vcOpX (o : Op) (ρ : Operand → AV) (st : St) (K : AV → St → Prop) : Prop :=
  match o with
  | .call c => match c.callee with
    | .value f => match ρ f with
      | .lit (.func (.func k) us vs) => callP P k (us.toList.map AV.ofV ++ (c.args.toList.map ρ) ++ vs.toList.map AV.ofV) st K
      | .fn (.func k) us vs => callP P k (us ++ (c.args.toList.map ρ) ++ vs) st K
      | _ => False
    | .builtin _ => vcOpE P T (.call c) ρ st K
    | .invoke _ _ => False
  | o => vcOp P T o ρ st K
def vcOperX (ops : Array Oper) (o : Oper) (fr : Fr) (st : St) (K : Fr → St → Prop) : Prop :=
  guardA ops o.guard fr (fun fr => vcOpX P T o.op fr.ev st fun v st' => fr.putK o.dst v fun fr' => K fr' st') (fun fr => fr.putK o.dst .un fun fr' => K fr' st)
def vcOpsX (ops : Array Oper) : List Oper → Fr → St → (Fr → St → Prop) → Prop
  | [], fr, st, K => K fr st
  | o :: r, fr, st, K => vcOperX P T ops o fr st fun fr' st' => vcOpsX ops r fr' st' K
/-- 0: it neither reads nor turns a variable; 1: it reads; 2: it may turn one -/
def cls (x : Bool) : Op → Nat
  | .load _ _ => 1
  | .convert _ _ _ => 1
  | .store _ _ _ => 2
  | .alloc _ => 2
  | .box _ _ => 2
  | .call c => match c.callee with
    | .value _ => match x with | true => 0 | false => 2
    | .builtin b => match b with | .append => 2 | .clear => 2 | _ => 0
    | .invoke _ _ => 2
  | _ => 0
def isApp : Op → Bool
  | .call c => match c.callee with | .builtin .append => true | _ => false
  | _ => false
/-- may x be taken ahead of y, whatever order was picked? -/
def comm (x : Bool) (a b : Op) : Bool :=
  match cls x a with
  | 0 => true
  | 1 => decide (cls x b ≤ 1) || isApp b
  | _ => false
def freeA (x : Bool) (ops : Array Oper) (listed : Array Bool) (i : Nat) : Bool :=
  match ops[i]? with
  | none => false
  | some oi => (List.range ops.size).all fun j => j == i || listed.getD j true || match ops[j]? with
      | some oj => oj.after.any (fun e => Region.binds .any e && e.on == i) || (oi.apart ops oj && comm x oi.op oj.op)
      | none => true
def lexA (x : Bool) (ops : Array Oper) : Nat → Nat → Array Bool → Bool
  | 0, _, listed => (Region.ready .any ops listed).isEmpty
  | n + 1, k, listed => (Region.ready .any ops listed).contains k && freeA x ops listed k && lexA x ops n (k + 1) (listed.setIfInBounds k true)
def drawOk (x : Bool) (ops : Array Oper) : Bool := lexA x ops ops.size 0 (Array.replicate ops.size false)

/-- a call that sees nothing but data, or turns nothing that was -/
inductive callN (f : FuncId) (args : List AV) (st : St) (K : AV → St → Prop) : Prop
  | p {r : AV} (hd : args.all AV.datA = true) (h : APure P f (args.map AV.strip) r []) (hk : K r st) : callN f args st K
  | w {args' : List AV} {r : AV} (hd : args.all AV.datG = true) (hw : ArgsW args args') (h : APure P f args' r []) (hk : K r st) : callN f args st K
  | s (h : ACalls P f args st fun r st' => Pre st st' ∧ K r st') : callN f args st K
/-- an operation; of calls those alone -/
def vcOpN (o : Op) (ρ : Operand → AV) (st : St) (K : AV → St → Prop) : Prop :=
  match o with
  | .call c => match c.callee with
    | .value f => match ρ f with
      | .lit (.func (.func k) us vs) => callN P k (us.toList.map AV.ofV ++ (c.args.toList.map ρ) ++ vs.toList.map AV.ofV) st K
      | .fn (.func k) us vs => callN P k (us ++ (c.args.toList.map ρ) ++ vs) st K
      | _ => False
    | .builtin _ => vcOpE P T (.call c) ρ st K
    | .invoke _ _ => False
  | o => vcOp P T o ρ st K
def vcOperN (ops : Array Oper) (o : Oper) (fr : Fr) (st : St) (K : Fr → St → Prop) : Prop :=
  guardA ops o.guard fr (fun fr => vcOpN P T o.op fr.ev st fun v st' => fr.putK o.dst v fun fr' => K fr' st') (fun fr => fr.putK o.dst .un fun fr' => K fr' st)
/-- does it turn nothing that was? -/
def isNew : Op → Bool
  | .alloc _ => true
  | .box _ _ => true
  | .call c => match c.callee with | .builtin .append => true | .value _ => true | _ => false
  | _ => false
def commN (wild : Bool) (a b : Op) : Bool :=
  match cls false a with
  | 0 => true
  | 1 => decide (cls false b ≤ 1) || (!wild && isNew b)
  | _ => false
def isIn : Nat → List Nat → Bool
  | _, [] => false
  | n, m :: r => match Nat.beq n m with | true => true | false => isIn n r
/-- those that come behind i -/
def dset (ops : Array Oper) (i : Nat) : List Bool :=
  (List.range ops.size).foldl (fun D j => D ++ [match ops[j]? with | some oj => oj.after.any (fun e => Region.binds .any e && (e.on == i || D.getD e.on false)) | none => false]) []
def freeN (W : List Nat) (ops : Array Oper) (listed : Array Bool) (i : Nat) : Bool :=
  match ops[i]? with
  | none => false
  | some oi => (fun D => !(D.getD i false) && (List.range ops.size).all fun j => (!(D.getD j false) || !(listed.getD j true)) && (j == i || listed.getD j true || match ops[j]? with
      | some oj => oj.after.any (fun e => Region.binds .any e && (e.on == i || D.getD e.on false)) || (!(D.getD j false) && oi.apart ops oj && commN (isIn j W) oi.op oj.op)
      | none => true)) (dset ops i)
/-- which operation comes next: one that may be taken ahead of all others; or each of two; or one that is alone, whatever it does -/
inductive Plan where
  | done
  | one (k : Nat) (p : Plan)
  | two (j k : Nat) (p q : Plan)
  | only (k : Nat) (p : Plan)
def Plan.wild : Plan → List Nat
  | .done => []
  | .one _ p => p.wild
  | .two _ _ p q => p.wild ++ q.wild
  | .only k p => k :: p.wild
def okPlan (W : List Nat) (ops : Array Oper) : Nat → Plan → Array Bool → Bool
  | 0, .done, listed => (Region.ready .any ops listed).isEmpty
  | n + 1, .one k p, listed => (Region.ready .any ops listed).contains k && (freeN W ops listed k || Region.ready .any ops listed == [k]) && okPlan W ops n p (listed.setIfInBounds k true)
  | n + 1, .two j k p q, listed => Region.ready .any ops listed == [j, k] && okPlan W ops n p (listed.setIfInBounds j true) && okPlan W ops n q (listed.setIfInBounds k true)
  | n + 1, .only k p, listed => isIn k W && Region.ready .any ops listed == [k] && okPlan W ops n p (listed.setIfInBounds k true)
  | _, _, _ => false
def planOk (ops : Array Oper) (p : Plan) : Bool := okPlan p.wild ops ops.size p (Array.replicate ops.size false)
def vcPlan (ops : Array Oper) (K : Fr → St → Prop) : Plan → Fr → St → Prop
  | .done, fr, st => K fr st
  | .one k p, fr, st => match ops[k]? with
    | some o => vcOperN P T ops o fr st fun fr' st' => vcPlan ops K p fr' st'
    | none => False
  | .only k p, fr, st => match ops[k]? with
    | some o => vcOper P T ops o fr st fun fr' st' => vcPlan ops K p fr' st'
    | none => False
  | .two j k p q, fr, st => (match ops[j]? with
    | some o => vcOperN P T ops o fr st fun fr' st' => vcPlan ops K p fr' st'
    | none => False) ∧ (match ops[k]? with
    | some o => vcOperN P T ops o fr st fun fr' st' => vcPlan ops K q fr' st'
    | none => False)

/-- a region whose order is drawn: one walk of the text's order serves, or each order is walked; or orders by a plan, and behind them less is kept -/
inductive VDraw (ops : Array Oper) (K : Fr → St → Prop) (fr : Fr) (st : St) : Prop
  | e (h : drawOk true ops = true) (hv : vcOpsX P T ops ops.toList fr st K) : VDraw ops K fr st
  | x (h : drawOk true ops = true) (hv : vcOpsX P T ops ops.toList fr st K) : VDraw ops K fr st
  | any (hv : vcAny P T ops K ops.size (Array.replicate ops.size false) fr st) : VDraw ops K fr st
  | n (p : Plan) (h : planOk ops p = true) (hv : vcPlan P T ops K p fr st) : VDraw ops K fr st
  | cut (p : Plan) (K' : Fr → St → Prop) (h : planOk ops p = true) (hv : vcPlan P T ops K' p fr st) (hk : ∀ fr' st', K' fr' st' → Keep (dsts ops) fr fr' → ∃ fr0, Fr.le (dsts ops) fr' fr0 ∧ K fr0 st') : VDraw ops K fr st

/-- a loop: what holds at its head, with a number that every round lowers -/
inductive VLoop (body : (Exit → Fr → St → Prop) → Fr → St → Prop) (W : List Nat) (Q : Exit → Fr → St → Prop) (fr : Fr) (st : St) : Prop
  | mk (I : Nat → Fr → St → Prop) (h0 : ∃ g fr0, Fr.le W fr fr0 ∧ I g fr0 st)
      (hr : ∀ g fr st, I g fr st → body (seqQ (fun fr' st' => ∃ g' fr0, g' < g ∧ Fr.le W fr' fr0 ∧ I g' fr0 st') (fun e fr' st' => ∃ fr0, Fr.le W fr' fr0 ∧ Q e fr0 st')) fr st) : VLoop body W Q fr st
def vc : Code → (Exit → Fr → St → Prop) → Fr → St → Prop
  | .skip, Q, fr, st => Q .normal fr st
  | .label _, Q, fr, st => Q .normal fr st
  | .region _ ops draw, Q, fr, st => match draw with
    | false => vcOps P T ops ops.toList fr st fun fr' st' => Q .normal fr' st'
    | true => VDraw P T ops (fun fr' st' => Q .normal fr' st') fr st
  | .seq a b, Q, fr, st => vc a (seqQ (fun fr' st' => vc b Q fr' st') Q) fr st
  | .cond c x y, Q, fr, st => match fr.ev c with | .lit (.bool t) => cnd t (vc x Q fr st) (vc y Q fr st) | _ => False
  | .block id b, Q, fr, st => vc b (blockQ id Q) fr st
  | .loop b, Q, fr, st => VLoop (fun Q' fr' st' => vc b Q' fr' st') (writes b) Q fr st
  | .exit id, Q, fr, st => Q (.exit id) fr st
  | .ret, Q, fr, st => Q .ret fr st
  | _, _, _, _ => False

/-- what a function hands back -/
def resOne (r : ResultVar) (fr : Fr) (st : St) (K : AV → Prop) : Prop :=
  match r with
  | .tmp t => (fr.getD t .un).fc K
  | .cell a t => match T t with
    | none => False
    | some i => match fr.getD a .un with
      | .ptr p off => ∃ cs, st.heap[p]? = some cs ∧ ldA i cs off K
      | _ => False
def resAll : List ResultVar → Fr → St → (List AV → Prop) → Prop
  | [], _, _, K => K []
  | r :: rs, fr, st, K => resOne T r fr st fun v => resAll rs fr st fun vs => K (v :: vs)
def retQ (fn : Func) (R : AV → St → Prop) : Exit → Fr → St → Prop
  | .normal, fr, st => resAll T fn.results.toList fr st fun vs => match vs with | [v] => R v st | vs => R (.tup vs) st
  | .ret, fr, st => resAll T fn.results.toList fr st fun vs => match vs with | [v] => R v st | vs => R (.tup vs) st
  | _, _, _ => False
def frame (fn : Func) (args : List AV) : Fr := args ++ List.replicate (fn.ntmps - args.length) .un
def unsK : Nat → (Fr → Prop) → Prop
  | 0, K => K []
  | n + 1, K => unsK n fun fr => K (.un :: fr)
theorem unsK_iff : ∀ {n : Nat} {K : Fr → Prop}, unsK n K ↔ K (List.replicate n .un)
  | 0, _ => Iff.rfl
  | n + 1, K => by
    unfold unsK
    exact unsK_iff
def appK : List AV → Fr → (Fr → Prop) → Prop
  | [], fr, K => K fr
  | a :: r, fr, K => appK r fr fun fr' => K (a :: fr')
theorem appK_iff : ∀ {l : List AV} {fr : Fr} {K : Fr → Prop}, appK l fr K ↔ K (l ++ fr)
  | [], _, _ => Iff.rfl
  | a :: r, fr, K => by
    unfold appK
    exact appK_iff
def frameK (fn : Func) (args : List AV) (K : Fr → Prop) : Prop := unsK (fn.ntmps - args.length) fun fr => appK args fr K
theorem frameK_iff {fn : Func} {args : List AV} {K : Fr → Prop} : frameK fn args K ↔ K (frame fn args) := unsK_iff.trans appK_iff
end
end Go.Proofs.YtfhodppaelfcfaaDoor
