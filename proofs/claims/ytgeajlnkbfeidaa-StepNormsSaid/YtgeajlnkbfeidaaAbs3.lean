/- The operations that only compute, the rest of them. -/
import Derived.Test.YtgeajlnkbfeidaaAbs2
namespace Go.Abs
open Go Go.RowKit

/-- A value of so many cells. -/
def szOk (x : V) (n : Nat) : Bool := match noTup x with
  | true => Nat.beq x.cells.length n
  | false => false

def partV (tt : TT) (t : TypeId) (cs : List V) (off : Nat) : Option V :=
  match tt t with
  | some e => match isAggD e.d with
    | true => match Nat.ble (off + e.size) cs.length with
      | true => some (.agg ((cs.drop off).take e.size))
      | false => none
    | false => cs[off]?
  | none => none

/-- Two values that are held against one another. -/
def eqFs (f : TypeId → V → V → Option Bool) (tt : TT) (xs ys : List V) : List Field → Option Bool
  | [] => some true
  | fd :: r => match fd.name == "_" with
    | true => none
    | false => match partV tt fd.type xs fd.offset, partV tt fd.type ys fd.offset with
      | some x, some y => match f fd.type x y, eqFs f tt xs ys r with
        | some a, some b => some (a && b)
        | _, _ => none
      | _, _ => none

def eqV (tt : TT) : Nat → TypeId → V → V → Option Bool
  | 0, _, _, _ => none
  | _ + 1, t, .lit (.int k a), .lit (.int k' b) => match tt t with
    | some ⟨.int _, _, _, _⟩ => if k = k' then some (decide (a = b)) else none
    | _ => none
  | _ + 1, t, .lit (.string a), .lit (.string b) => match tt t with
    | some ⟨.string, _, _, _⟩ => some (strEq a b)
    | _ => none
  | _ + 1, t, .lit (.bool a), .lit (.bool b) => match tt t with
    | some ⟨.bool, _, _, _⟩ => some (a == b)
    | _ => none
  | d + 1, t, .agg xs, .agg ys => match tt t, tt.eq t with
    | some ⟨.struct fs, _, _, _⟩, true => eqFs (eqV tt d) tt xs ys fs.toList
    | _, _ => none
  | _, _, _, _ => none

def pbin2 (tt : TT) (op : BinOp) (t : TypeId) (x y : V) : Option (List Prop × V) :=
  match x, y with
  | .agg xs, .agg ys => match eqV tt 8 t (.agg xs) (.agg ys), op with
    | some b, .eql => some ([], .lit (.bool b))
    | some b, .neq => some ([], .lit (.bool (!b)))
    | _, _ => none
  | x, y => pbin tt op t x y

def punary (op : UnOp) (x : V) : Option V :=
  match op, x with
  | .neg, .lit (.int k n) => some (.lit (.int k (k.wrap (0 - n))))
  | .xor, .lit (.int k n) => some (.lit (.int k (bitsI .xor k (if k.signed then -1 else k.max) n)))
  | .not, .lit (.bool b) => some (.lit (.bool (!b)))
  | _, _ => none

/-- The parts of a struct that is built. -/
def putAt (cs : List V) (off : Nat) : List V → List V
  | [] => cs
  | x :: r => putAt (cs.set off x) (off + 1) r

def fillV (tt : TT) (fs : Array Field) (cs : List V) : List (Nat × V) → Option (List V)
  | [] => some cs
  | (i, v) :: rest =>
    match fs[i]? with
    | none => none
    | some f => match tt f.type with
      | none => none
      | some e => match Nat.beq v.cells.length e.size, Nat.ble (f.offset + v.cells.length) cs.length with
        | true, true => fillV tt fs (putAt cs f.offset v.cells) rest
        | _, _ => none

def evalP (T : Env) (ctx : Ctx) : List (Nat × Operand) → Option (List (Nat × V))
  | [] => some []
  | (i, x) :: r => match evalO T ctx x, evalP T ctx r with
    | some y, some ys => some ((i, y) :: ys)
    | _, _ => none

def pslice (tt : TT) (t : TypeId) (x : V) (lo hi mx : Option V) : Option (List Prop × V) :=
  match x with
  | .sl z n el =>
    match tt t with
    | some ⟨.slice e, _, _, _⟩ =>
      match tt e with
      | none => none
      | some te =>
      match lo, hi, mx with
      | none, none, none => some ([], .sl z n el)
      | some (.lit (.int _ l)), none, none => match szOk (el l.toNat) te.size with
        | true => some ([0 ≤ l ∧ l ≤ (n : Int)], .sl false (n - l.toNat) (fun i => el (l.toNat + i)))
        | false => none
      | none, some (.lit (.int _ h)), none => some ([0 ≤ h ∧ h ≤ (n : Int)], .sl false h.toNat el)
      | some (.lit (.int _ l)), some (.lit (.int _ h)), none => match szOk (el l.toNat) te.size with
        | true => some ([0 ≤ l ∧ l ≤ h ∧ h ≤ (n : Int)], .sl false (h.toNat - l.toNat) (fun i => el (l.toNat + i)))
        | false => none
      | none, some (.lit (.int _ (.ofNat 0))), some (.lit (.int _ (.ofNat 0))) => some ([], .sl true 0 el)
      | none, some (.lit (.int _ h)), some (.lit (.int _ m)) => some ([0 ≤ h ∧ h ≤ m ∧ m ≤ (n : Int)], .sl false h.toNat el)
      | some (.lit (.int _ l)), some (.lit (.int _ h)), some (.lit (.int _ m)) => match szOk (el l.toNat) te.size with
        | true => some ([0 ≤ l ∧ l ≤ h ∧ h ≤ m ∧ m ≤ (n : Int)], .sl false (h.toNat - l.toNat) (fun i => el (l.toNat + i)))
        | false => none
      | _, _, _ => none
    | _ => none
  | .msl k l0 i n =>
    match tt t with
    | some ⟨.slice e, _, _, _⟩ =>
      match tt e with
      | none => none
      | some te =>
      match Nat.beq k te.size with
      | false => none
      | true =>
      match lo, hi, mx with
      | none, none, none => some ([], .msl k l0 i n)
      | some (.lit (.int _ l)), none, none => some ([0 ≤ l ∧ l ≤ (n : Int)], .msl k l0 (i + l.toNat) (n - l.toNat))
      | none, some (.lit (.int _ h)), none => some ([0 ≤ h ∧ h ≤ (n : Int)], .msl k l0 i h.toNat)
      | some (.lit (.int _ l)), some (.lit (.int _ h)), none => some ([0 ≤ l ∧ l ≤ h ∧ h ≤ (n : Int)], .msl k l0 (i + l.toNat) (h.toNat - l.toNat))
      | _, _, _ => none
    | _ => none
  | .lit (.string s) =>
    match tt t with
    | some ⟨.string, _, _, _⟩ =>
      match lo, hi, mx with
      | none, none, none => some ([], .lit (.string s))
      | some (.lit (.int _ l)), none, none => some ([0 ≤ l ∧ l ≤ (s.size : Int)], .lit (.string (s.extract l.toNat s.size)))
      | none, some (.lit (.int _ h)), none => some ([0 ≤ h ∧ h ≤ (s.size : Int)], .lit (.string (s.extract 0 h.toNat)))
      | some (.lit (.int _ l)), some (.lit (.int _ h)), none => some ([0 ≤ l ∧ l ≤ h ∧ h ≤ (s.size : Int)], .lit (.string (s.extract l.toNat h.toNat)))
      | _, _, _ => none
    | _ => none
  | _ => none

def allNT : List (Nat × V) → Bool
  | [] => true
  | p :: r => noTup p.2 && allNT r

def allTy (tt : TT) : List Field → Bool
  | [] => true
  | f :: r => (tt f.type).isSome && allTy tt r

def evalOO (T : Env) (ctx : Ctx) : Option Operand → Option (Option V)
  | none => some none
  | some x => match evalO T ctx x with
    | some y => some (some y)
    | none => none

def minV : V → V → Option V
  | .lit (.int k x), .lit (.int k' y) => if k = k' then some (.lit (.int k (if y < x then y else x))) else none
  | _, _ => none

def maxV : V → V → Option V
  | .lit (.int k x), .lit (.int k' y) => if k = k' then some (.lit (.int k (if y > x then y else x))) else none
  | _, _ => none

def pureOp (tt : TT) (T : Env) (ctx : Ctx) (op : Op) : Option (List Prop × V) :=
  match op with
  | .move x | .assign x => match evalO T ctx x with
    | some v => some ([], v)
    | none => none
  | .pick (.tmp c) a b => match evalO T ctx (.tmp c), evalO T ((c, true) :: ctx) a, evalO T ((c, false) :: ctx) b with
    | some (.lit (.bool x)), some (.lit (.bool y)), some (.lit (.bool z)) => some ([], .lit (.bool (cond x y z)))
    | _, _, _ => none
  | .binOp o t x y _ => match evalO T ctx x, evalO T ctx y with
    | some a, some b => pbin2 tt o t a b
    | _, _ => none
  | .unOp o _ x => match evalO T ctx x with
    | some a => match punary o a with
      | some v => some ([], v)
      | none => none
    | none => none
  | .extract x i => match evalO T ctx x with
    | some (.tup vs) => match vs[i]? with
      | some v => some ([], v)
      | none => none
    | _ => none
  | .fieldAddr s x f => match evalO T ctx x, tt s with
    | some v, some ⟨.struct fs, _, _, _⟩ => match fs[f]? with
      | some fd => match tt fd.type with
        | some e => match e.size with
          | 0 => none
          | _ + 1 => match v with
            | .rp (.agg cs) => match partV tt fd.type cs fd.offset with
              | some u => some ([], .rp u)
              | none => none
            | .lp l i o => some ([], .lp l i (o + fd.offset))
            | _ => none
        | none => none
      | none => none
    | _, _ => none
  | .field s x f => match evalO T ctx x, tt s with
    | some (.agg cs), some ⟨.struct fs, _, _, _⟩ => match fs[f]? with
      | some fd => match partV tt fd.type cs fd.offset with
        | some u => some ([], u)
        | none => none
      | none => none
    | _, _ => none
  | .indexAddr t x ix => match evalO T ctx x, evalO T ctx ix, tt t with
    | some (.sl _ n el), some (.lit (.int _ j)), some ⟨.slice e, _, _, _⟩ => match tt e with
      | some te => match szOk (el j.toNat) te.size with
        | true => some ([0 ≤ j ∧ j < (n : Int)], .rp (el j.toNat))
        | false => none
      | none => none
    | some (.msl k l i n), some (.lit (.int _ j)), some ⟨.slice e, _, _, _⟩ => match tt e with
      | some te => match Nat.beq k te.size with
        | true => some ([0 ≤ j ∧ j < (n : Int)], .lp l (i + j.toNat) 0)
        | false => none
      | none => none
    | _, _, _ => none
  | .index t x ix => match evalO T ctx x, evalO T ctx ix, tt t with
    | some (.lit (.string s)), some (.lit (.int _ j)), some ⟨.string, _, _, _⟩ => some ([0 ≤ j ∧ j < (s.size : Int)], .lit (.int .u8 (bt s j)))
    | _, _, _ => none
  | .load t x => match evalO T ctx x, tt t with
    | some (.rp v), some e => match isAggD e.d, v with
      | true, .agg cs => match Nat.beq cs.length e.size with
        | true => some ([], .agg cs)
        | false => none
      | false, .agg _ => none
      | false, .tup _ => none
      | false, v => some ([], v)
      | _, _ => none
    | _, _ => none
  | .slice t x lo hi mx => match evalO T ctx x, evalOO T ctx lo, evalOO T ctx hi, evalOO T ctx mx with
    | some v, some l, some h, some m => pslice tt t v l h m
    | _, _, _, _ => none
  | .build t parts => match tt t, evalP T ctx parts.toList with
    | some ⟨.struct fs, _, _, .agg zs⟩, some ps => match allTy tt fs.toList && allNT ps with
      | true => match fillV tt fs zs ps with
        | some cs => some ([], .agg cs)
        | none => none
      | false => none
    | _, _ => none
  | .makeFunc fn first captured => match evalL T ctx first.toList, evalL T ctx captured.toList with
    | some xs, some ys => some ([], .fn fn xs ys)
    | _, _ => none
  | .convert src dst x => match evalO T ctx x, tt src, tt dst with
    | some (.lit (.int _ n)), some _, some ⟨.int k, _, _, _⟩ => some ([], .lit (.int k (k.wrap n)))
    | some (.lit (.string s)), some _, some ⟨.string, _, _, _⟩ => some ([], .lit (.string s))
    | _, _, _ => none
  | .call { callee := .builtin .len, args, argTypes } => match evalL T ctx args.toList, argTypes[0]? with
    | some [x], some t => match tt t, x with
      | some ⟨.slice _, _, _, _⟩, .sl _ n _ => some ([], .lit (.int .i64 n))
      | some ⟨.slice _, _, _, _⟩, .msl _ _ _ n => some ([], .lit (.int .i64 n))
      | some ⟨.string, _, _, _⟩, .lit (.string s) => some ([], .lit (.int .i64 s.size))
      | _, _ => none
    | _, _ => none
  | .call { callee := .builtin .min, args, .. } => match evalL T ctx args.toList with
    | some [x, y] => match minV x y with
      | some v => some ([], v)
      | none => none
    | some [x, y, z] => match minV x y with
      | some v => match minV v z with
        | some u => some ([], u)
        | none => none
      | none => none
    | _ => none
  | .call { callee := .builtin .max, args, .. } => match evalL T ctx args.toList with
    | some [x, y] => match maxV x y with
      | some v => some ([], v)
      | none => none
    | some [x, y, z] => match maxV x y with
      | some v => match maxV v z with
        | some u => some ([], u)
        | none => none
      | none => none
    | _ => none
  | .nilCheck x => match evalO T ctx x with
    | some (.rp v) => some ([], .rp v)
    | some (.lp l i o) => some ([], .lp l i o)
    | some (.fn (.func f) a b) => some ([], .fn (.func f) a b)
    | _ => none
  | _ => none

end Go.Abs
