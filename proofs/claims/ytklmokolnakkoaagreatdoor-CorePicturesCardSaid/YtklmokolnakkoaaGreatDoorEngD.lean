/-
  Part D of an engine: the table of quiet operations. Definitions alone.
-/
import Derived.Test.YtklmokolnakkoaaGreatDoorEngC
set_option linter.unusedVariables false
set_option linter.unusedSimpArgs false
namespace Go.Eng

def valsO (ρ : Operand → Option Value) : List Operand → Option (List Value)
  | [] => some []
  | x :: xs =>
    match ρ x, valsO ρ xs with
    | some v, some vs => some (v :: vs)
    | _, _ => none
def partsO (ρ : Operand → Option Value) : List (Nat × Operand) → Option (List (Nat × Value))
  | [] => some []
  | (i, x) :: xs =>
    match ρ x, partsO ρ xs with
    | some v, some vs => some ((i, v) :: vs)
    | _, _ => none

def qUn (op : UnOp) (x : Value) : QRes :=
  match op, x with
  | .neg, .int k n => .ret (.int k (k.wrap (0 - n)))
  | .not, .bool b => .ret (.bool (!b))
  | _, _ => .fail
structure cnvS (P : Program) (s d : TypeId) (x : Value) (v : ByteArray) (w : World) : Prop where
  run : (convert s d x).run P w = .ok (.string v) w
def qConv (P : Program) (src dst : TypeId) (x : Value) : QRes :=
  match P.underlying src, P.underlying dst, x with
  | some (.int _), some (.int k), .int _ n => .ret (.int k (k.wrap n))
  | some .string, some .string, .string s => .ret (.string s)
  | some (.slice _), some .string, .slice a l c => .ex fun s : ByteArray => .rdc (cnvS P src dst (.slice a l c) s) (.ret (.string s))
  | _, _, _ => .fail
def valQ (P : Program) (t : TypeId) (k : Value → QRes) : QRes :=
  match P.underlying t with
  | some (.struct _) | some (.array _ _) =>
    (match leaves P 12 t with
     | some ds => leavesQ ds fun vs => k (.agg vs.toArray)
     | none => .fail)
  | some d => leafQ d k
  | none => .fail
def qLoad (P : Program) (t : TypeId) (x : Value) : QRes :=
  match x with
  | .pointer p =>
    .chk (isP p) (match aggT P t with
      | true =>
        (match leaves P 12 t with
         | some ds =>
           (match ds.length == szT P t && hasT P t with
            | true => leavesQ ds fun vs => .rdc (fun w => rdAll w (pb p) (po p) vs) (.ret (.agg vs.toArray))
            | false => .fail)
         | none => .fail)
      | false =>
        match P.underlying t with
        | some d => leafQ d fun v => .rdc (fun w => rd w (pb p) (po p) = some v) (.ret v)
        | none => .fail)
  | _ => .fail
def qFieldAddr (P : Program) (s : TypeId) (x : Value) (f : Nat) : QRes :=
  match P.underlying s, x with
  | some (.struct fs), .pointer p =>
    (match fs.toList[f]? with
     | some fd =>
       (match P.info? fd.type with
        | some i => (match i.size == 0 with
          | false => .chk (isP p) (.ret (.pointer (some ⟨pb p, po p + fd.offset, none⟩)))
          | true => .fail)
        | none => .fail)
     | none => .fail)
  | _, _ => .fail
def qField (P : Program) (s : TypeId) (x : Value) (f : Nat) : QRes :=
  match P.underlying s, x with
  | some (.struct fs), .agg cs =>
    (match fs.toList[f]? with
     | some fd => (match partV P fd.type cs.toList fd.offset, P.underlying fd.type with
       | some v, some _ => .ret v
       | _, _ => .fail)
     | none => .fail)
  | _, _ => .fail
def qIndexAddr (P : Program) (t : TypeId) (x ix : Value) : QRes :=
  match P.underlying t, x, ix with
  | some (.array n e), .pointer p, .int _ i =>
    (match P.info? e with
     | some ti => .chk (isP p) (.chk (inB i n) (.ret (.pointer (some ⟨pb p, po p + i.toNat * ti.size, none⟩))))
     | none => .fail)
  | some (.slice e), .slice a l _, .int _ i =>
    (match P.info? e with
     | some ti => .chk (isP a) (.chk (inB i l) (.ret (.pointer (some ⟨pb a, po a + i.toNat * ti.size, none⟩))))
     | none => .fail)
  | _, _, _ => .fail
def qIndex (P : Program) (t : TypeId) (x ix : Value) : QRes :=
  match P.underlying t, x, ix with
  | some (.array n e), .agg cs, .int _ i =>
    (match aggT P e, P.underlying e, P.info? e with
     | false, some d, some ti => .chk (inB i n) (leafQ d fun v => .rdc (fun _ => cs.toList[i.toNat * ti.size]? = some v) (.ret v))
     | _, _, _ => .fail)
  | some .string, .string s, .int _ i => .chk (inB i s.size) (.ret (.int .u8 (s.data.toList.getD i.toNat 0).toNat))
  | _, _, _ => .fail
def qExtract (x : Value) (i : Nat) : QRes :=
  match x with
  | .tuple vs => (match vs.toList[i]? with | some v => .ret v | none => .fail)
  | _ => .fail
def qSlice (P : Program) (t : TypeId) (x : Value) (lo hi : Option Value) : QRes :=
  match P.underlying t, x with
  | some (.slice e), .slice a l c =>
    (match P.info? e, lo, hi with
     | some _, none, none => .chk (okSl 0 l c) (.ret (.slice a l c))
     | some _, none, some (.int _ h) => .chk (okSl 0 h c) (.ret (.slice a h.toNat c))
     | some ti, some (.int _ k), none => .chk (okSl k l c) (.ret (.slice (offA a c k.toNat ti.size) (l - k.toNat) (c - k.toNat)))
     | some ti, some (.int _ k), some (.int _ h) => .chk (okSl k h c) (.ret (.slice (offA a c k.toNat ti.size) (h.toNat - k.toNat) (c - k.toNat)))
     | _, _, _ => .fail)
  | some .string, .string s =>
    (match lo, hi with
     | none, none => .ret (.string (s.extract 0 s.size))
     | none, some (.int _ h) => .chk (okSl 0 h s.size) (.ret (.string (s.extract 0 h.toNat)))
     | some (.int _ k), none => .chk (okSl k s.size s.size) (.ret (.string (s.extract k.toNat s.size)))
     | some (.int _ k), some (.int _ h) => .chk (okSl k h s.size) (.ret (.string (s.extract k.toNat h.toNat)))
     | _, _ => .fail)
  | some (.array n e), .pointer p =>
    (match P.info? e, lo, hi with
     | some _, none, none => .chk (isP p) (.ret (.slice p n n))
     | some _, none, some (.int _ h) => .chk (isP p) (.chk (okSl 0 h n) (.ret (.slice p h.toNat n)))
     | some ti, some (.int _ k), none => .chk (isP p) (.chk (okSl k n n) (.ret (.slice (offA p n k.toNat ti.size) (n - k.toNat) (n - k.toNat))))
     | some ti, some (.int _ k), some (.int _ h) => .chk (isP p) (.chk (okSl k h n) (.ret (.slice (offA p n k.toNat ti.size) (h.toNat - k.toNat) (n - k.toNat))))
     | _, _, _ => .fail)
  | _, _ => .fail
def qSlice3 (P : Program) (t : TypeId) (x lo hi mx : Value) : QRes :=
  match P.underlying t, x, lo, hi, mx with
  | some (.slice e), .slice a _ c, .int _ k, .int _ h, .int _ m =>
    (match P.info? e with
     | some ti => .chk (okSl k h m) (.chk (okSl 0 m c) (.ret (.slice (offA a m.toNat k.toNat ti.size) (h.toNat - k.toNat) (m.toNat - k.toNat))))
     | none => .fail)
  | _, _, _, _, _ => .fail
structure lookIs (P : Program) (t : TypeId) (m k : Value) (two : Bool) (v : Value) (w : World) : Prop where
  run : (Instr.lookup t m k two).run P w = .ok v w
def qLookup (P : Program) (t : TypeId) (m k : Value) (two : Bool) : QRes :=
  match P.underlying t with
  | some (.map _ e) =>
    (match two with
     | true => valQ P e fun v => .ex fun b : Bool => .rdc (lookIs P t m k true (.tuple #[v, .bool b])) (.ret (.tuple #[v, .bool b]))
     | false => valQ P e fun v => .rdc (lookIs P t m k false v) (.ret v))
  | _ => .fail
structure entIs (P : Program) (it v : Value) (w : World) : Prop where
  run : (Instr.entry it).run P w = .ok v w
def hintQ (P : Program) (t : Option TypeId) (k : Value → QRes) : QRes :=
  match t with
  | some t => valQ P t k
  | none => .ex fun v : Value => k v
def qEntry (P : Program) (τ : Nat → Option TypeId) (ρ : Operand → Option Value) (it : Operand) : QRes :=
  match ρ it with
  | some a => hintQ P (τ 0) fun k => hintQ P (τ 1) fun v => .rdc (entIs P a (.tuple #[k, v])) (.ret (.tuple #[k, v]))
  | none => .fail
def extTy (ops : List Oper) (d : Option Tmp) (i : Nat) : Option TypeId :=
  match d with
  | none => none
  | some s => (ops.find? fun o => match o.op with | .extract (.tmp s') i' => s' == s && i' == i | _ => false).map (·.type)
structure lenIs (P : Program) (ts : Array TypeId) (t : TypeId) (m : Value) (n : Int) (w : World) : Prop where
  run : (Builtin.len_ ts t #[m]).run P w = .ok (.int .i64 n) w
def qBuiltin (P : Program) (b : Builtin) (ts : Array TypeId) (ty : TypeId) (args : List Value) : QRes :=
  match b, ts.toList, args with
  | .len, t :: _, [x] =>
    (match P.underlying t, x with
     | some (.slice _), .slice _ n _ => .ret (.int .i64 n)
     | some .string, .string s => .ret (.int .i64 s.size)
     | some (.array n _), _ => .ret (.int .i64 n)
     | some (.map _ _), .map r => .ex fun n : Int => .rdc (lenIs P ts ty (.map r) n) (.ret (.int .i64 n))
     | _, _ => .fail)
  | .cap, t :: _, [x] =>
    (match P.underlying t, x with
     | some (.slice _), .slice _ _ c => .ret (.int .i64 c)
     | _, _ => .fail)
  | .min, _, [.int k x, .int _ y] => .ret (.int k (if y < x then y else x))
  | .max, _, [.int k x, .int _ y] => .ret (.int k (if y > x then y else x))
  | _, _, _ => .fail

def qOp (P : Program) (τ : Nat → Option TypeId) (ρ : Operand → Option Value) (o : Oper) : QRes :=
  match o.op with
  | .move x => (match ρ x with | some v => .ret v | none => .fail)
  | .assign x => (match ρ x with | some v => .ret v | none => .fail)
  | .nilCheck x =>
    (match ρ x with
     | some (.pointer p) => .chk (isP p) (.ret (.pointer (some ⟨pb p, po p, none⟩)))
     | some (.func (.func f) a c) => .ret (.func (.func f) a c)
     | _ => .fail)
  | .binOp op t x y _ => (match ρ x, ρ y with | some a, some b => qBin P op t a b | _, _ => .fail)
  | .unOp op _ x => (match ρ x with | some a => qUn op a | none => .fail)
  | .convert s d x => (match ρ x with | some a => qConv P s d a | none => .fail)
  | .fieldAddr s x f => (match ρ x with | some a => qFieldAddr P s a f | none => .fail)
  | .field s x f => (match ρ x with | some a => qField P s a f | none => .fail)
  | .indexAddr t x i => (match ρ x, ρ i with | some a, some b => qIndexAddr P t a b | _, _ => .fail)
  | .index t x i => (match ρ x, ρ i with | some a, some b => qIndex P t a b | _, _ => .fail)
  | .extract x i => (match ρ x with | some a => qExtract a i | none => .fail)
  | .slice t x lo hi none =>
    (match ρ x, lo, hi with
     | some a, none, none => qSlice P t a none none
     | some a, some l, none => (match ρ l with | some l => qSlice P t a (some l) none | none => .fail)
     | some a, none, some h => (match ρ h with | some h => qSlice P t a none (some h) | none => .fail)
     | some a, some l, some h => (match ρ l, ρ h with | some l, some h => qSlice P t a (some l) (some h) | _, _ => .fail)
     | _, _, _ => .fail)
  | .slice t x (some lo) (some hi) (some mx) =>
    (match ρ x, ρ lo, ρ hi, ρ mx with
     | some a, some l, some h, some m => qSlice3 P t a l h m
     | _, _, _, _ => .fail)
  | .build t parts =>
    (match partsO ρ parts.toList with
     | some ps => (match P.built t ps with | some cells => .ret (.agg cells) | none => .fail)
     | none => .fail)
  | .makeFunc fn first cap =>
    (match valsO ρ first.toList, valsO ρ cap.toList with
     | some a, some b => .ret (.func fn a.toArray b.toArray)
     | _, _ => .fail)
  | .makeInterface t x =>
    (match ρ x, P.underlying t with
     | some _, some (.interface _) => .fail
     | some a, some _ => .ret (.iface t a)
     | _, _ => .fail)
  | .load t x => (match ρ x with | some a => qLoad P t a | none => .fail)
  | .lookup t m k two => (match ρ m, ρ k with | some a, some b => qLookup P t a b two | _, _ => .fail)
  | .call { callee := .builtin b, args := args, argTypes := ts } =>
    (match valsO ρ args.toList with | some vs => qBuiltin P b ts o.type vs | none => .fail)
  | .entry it => qEntry P τ ρ it
  | _ => .fail

def quiet (P : Program) : Op → Bool
  | .move _ | .assign _ | .nilCheck _ | .binOp .. | .unOp .. | .fieldAddr .. | .field .. | .indexAddr .. | .index .. | .extract .. | .build .. | .makeFunc .. | .makeInterface ..
  | .load .. | .lookup .. | .entry _ => true
  | .convert s d _ => (match P.underlying s, P.underlying d with | _, some (.int _) => true | some (.slice _), some .string => true | _, _ => false)
  | .slice _ _ _ _ none => true
  | .slice _ _ (some _) (some _) (some _) => true
  | .call { callee := .builtin .len, .. } | .call { callee := .builtin .cap, .. } | .call { callee := .builtin .min, .. } | .call { callee := .builtin .max, .. } => true
  | _ => false

end Go.Eng
