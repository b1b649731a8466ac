/-
  EV, part C: from the model's code to compiled code. A plan for each region that draws its order is handed in and looked at. Own work of this claim; generic over programs.
-/
import Derived.Test.YtgaoddafkjdecaaGreatEvA
namespace Go.Proofs.YtgaoddafkjdecaaGreat.EV

mutual
def ofVal : Value → Option AV
  | .bool b => some (.bool b)
  | .int k n => some (.int k n)
  | .float .f64 b => some (.flt b)
  | .string s => some (.str (s.data.toList.map (·.toNat)))
  | .pointer none => some .nilp
  | .slice none 0 0 => some .nils
  | .map none => some .nilm
  | .nilFunc => some .nilf
  | .nilIface => some .nili
  | .agg ⟨l⟩ => match ofVals l with
    | some l => some (.agg l)
    | none => none
  | _ => none
def ofVals : List Value → Option (List AV)
  | [] => some []
  | v :: l => match ofVal v, ofVals l with
    | some a, some r => some (a :: r)
    | _, _ => none
end

def cOpd : Operand → Option AO
  | .tmp t => some (.tmp (tp t))
  | .const v => match ofVal v with
    | some a => some (.const a)
    | none => none
  | .global _ => none
  | .func f => some (.const (.clo (tp f) [] []))

def cOpds : List Operand → Option (List AO)
  | [] => some []
  | x :: l => match cOpd x, cOpds l with
    | some a, some r => some (a :: r)
    | _, _ => none

/-- an operand that is perhaps not there -/
def cOpdO : Option Operand → Option (Option AO)
  | none => some none
  | some x => match cOpd x with
    | some a => some (some a)
    | none => none

def zeroCells (P : Program) (t : TypeId) : Option (List AV) :=
  match P.info? t with
  | some i => match i.zero with
    | some z => match ofVal z with
      | some a => bif Nat.beq a.cells.length i.size then some a.cells else none
      | none => none
    | none => none
  | none => none

def isAggT (P : Program) (t : TypeId) : Option Bool :=
  match P.underlying t with
  | some (.struct _) => some true
  | some (.array _ _) => some true
  | some _ => some false
  | none => none

def sizeT (P : Program) (t : TypeId) : Option Nat := (P.info? t).map (·.size)
def bytesT (P : Program) (t : TypeId) : Option Nat := (P.info? t).map (·.bytes)

def cFields (P : Program) (fs : Array Field) : List (Nat × Operand) → Option (List (Nat × Nat × AO))
  | [] => some []
  | (i, x) :: l => match fs[i]? with
    | some f => match sizeT P f.type, cOpd x, cFields P fs l with
      | some n, some a, some r => some ((f.offset, n, a) :: r)
      | _, _, _ => none
    | none => none

def cElems (sz : Nat) : List (Nat × Operand) → Option (List (Nat × Nat × AO))
  | [] => some []
  | (i, x) :: l => match cOpd x, cElems sz l with
    | some a, some r => some ((i * sz, sz, a) :: r)
    | _, _ => none

def eqKind (P : Program) (t : TypeId) (x y : Operand) : Option EK :=
  match P.underlying t with
  | some .bool => some .bool
  | some (.pointer _) => some .ptr
  | some (.slice _) => some .slice
  | some (.map _ _) => some .map
  | some (.func _ _ _) => some .func
  | some (.interface _) => match x, y with
    | .const .nilIface, _ | _, .const .nilIface => some .iface
    | _, _ => none
  | _ => none

def keyKind (P : Program) (t : TypeId) : Option (Bool × IntKind) :=
  match P.underlying t with
  | some (.int k) => some (false, k)
  | some .string => some (true, .i64)
  | _ => none

def sliceElem (P : Program) (t : TypeId) : Option TypeId :=
  match P.underlying t with
  | some (.slice e) => some e
  | _ => none

/-- ms: the names of the methods that are called -/
def cCall (P : Program) (ms : List String) (c : _root_.Go.Call) : Option AOp :=
  match c.callee with
  | .value (.func f) => match P.funcs[f]?, cOpds c.args.toList with
    | some fn, some l => bif fn.body.isSome then (bif fn.name == "runtime.NumGoroutine" then none else some (.callF (tp f) l)) else match l with
      | [x] => bif (Extern.findNext fn).isNone then
          (bif fn.name == "math.Float64bits" then some (.fbits x) else bif fn.name == "math.Float64frombits" then some (.ffrom x) else none) else none
      | _ => none
    | _, _ => none
  | .value (.tmp t) => match cOpds c.args.toList with
    | some l => some (.callV (.tmp (tp t)) l)
    | none => none
  | .value _ => none
  | .invoke r name => match cOpd r, cOpds c.args.toList with
    | some r, some l => match ms.idxOf? name with
      | some i => some (.callI r i l)
      | none => none
    | _, _ => none
  | .builtin b =>
    match b, c.args.toList, c.argTypes.toList with
    | .append, [x, y], [s, t] => match cOpd x, cOpd y, sliceElem P s with
      | some x, some y, some e => match sizeT P e, bytesT P e, P.underlying t with
        | some sz, some bytes, some (.int _) => match zeroCells P e with
          | some z => some (.appendZ sz bytes z x y)
          | none => none
        | some sz, some bytes, some _ => match zeroCells P e with
          | some _ => bif Nat.blt 0 bytes then some (.append sz bytes x y) else none
          | none => none
        | _, _, _ => none
      | _, _, _ => none
    | .copy, [x, y], s :: _ => match cOpd x, cOpd y, sliceElem P s with
      | some x, some y, some e => match sizeT P e with
        | some sz => some (.copy sz x y)
        | none => none
      | _, _, _ => none
    | .clear, [x], s :: _ => match cOpd x, sliceElem P s with
      | some x, some e => match sizeT P e, zeroCells P e with
        | some sz, some z => some (.clearS sz z x)
        | _, _ => none
      | _, _ => none
    | .len, [x], s :: _ => match cOpd x, P.underlying s with
      | some x, some .string => some (.len 0 x)
      | some x, some (.slice _) => some (.len 1 x)
      | some x, some (.map _ _) => some (.len 2 x)
      | some _, some (.array n _) => some (.mv (.const (.int .i64 n)))
      | _, _ => none
    | .cap, [x], s :: _ => match cOpd x, P.underlying s with
      | some x, some (.slice _) => some (.cap x)
      | _, _ => none
    | .min, [x, y], _ => match cOpd x, cOpd y with
      | some x, some y => some (.min x y)
      | _, _ => none
    | .max, [x, y], _ => match cOpd x, cOpd y with
      | some x, some y => some (.max x y)
      | _, _ => none
    | .delete, [m, k], s :: _ => match cOpd m, cOpd k, P.underlying s with
      | some m, some k, some (.map kt _) => match keyKind P kt with
        | some (str, ik) => some (.delete str ik m k)
        | none => none
      | _, _, _ => none
    | _, _, _ => none

def cOp (P : Program) (ms : List String) : Op → Option AOp
  | .move x | .assign x => match cOpd x with
    | some a => some (.mv a)
    | none => none
  | .pick c a b => match cOpd c, cOpd a, cOpd b with
    | some c, some a, some b => some (.pick c a b)
    | _, _, _ => none
  | .alloc e => match zeroCells P e with
    | some z => some (.alloc z)
    | none => none
  | .box e x => match sizeT P e, cOpd x with
    | some n, some a => some (.box n a)
    | _, _ => none
  | .build t parts => match P.underlying t, zeroCells P t with
    | some (.struct fs), some z => match cFields P fs parts.toList with
      | some l => bif fs.toList.all (fun f => (sizeT P f.type).isSome) then some (.build z l) else none
      | none => none
    | some (.array _ e), some z => match sizeT P e with
      | some sz => match cElems sz parts.toList with
        | some l => some (.build z l)
        | none => none
      | none => none
    | _, _ => none
  | .buildSlice t len parts => match sliceElem P t with
    | some e => match sizeT P e, zeroCells P e with
      | some sz, some z => match cElems sz parts.toList with
        | some l => bif Nat.ble (len * sz) 16777216 then some (.bslice len ((List.replicate len z).flatten) l) else none
        | none => none
      | _, _ => none
    | none => none
  | .load t a => match isAggT P t, sizeT P t, cOpd a with
    | some true, some n, some a => some (.loadN n a)
    | some false, some _, some a => some (.load1 a)
    | _, _, _ => none
  | .store t a x => match sizeT P t, cOpd a, cOpd x with
    | some n, some a, some x => some (.store n a x)
    | _, _, _ => none
  | .nilCheck x => match cOpd x with
    | some a => some (.nilck a)
    | none => none
  | .binOp op t x y _ => match cOpd x, cOpd y with
    | some a, some b => match op, P.underlying t with
      | .eql, some (.int _) | .eql, some .string | .eql, some (.float _) | .neq, some (.int _) | .neq, some .string | .neq, some (.float _) => some (.bin op a b)
      | .eql, _ => match eqKind P t x y with
        | some k => some (.eq false k a b)
        | none => none
      | .neq, _ => match eqKind P t x y with
        | some k => some (.eq true k a b)
        | none => none
      | _, _ => some (.bin op a b)
    | _, _ => none
  | .unOp op _ x => match cOpd x with
    | some a => some (.un op a)
    | none => none
  | .convert s d x => match cOpd x with
    | some a => match P.underlying s, P.underlying d with
      | some (.int _), some (.int k) => some (.cvII k a)
      | some (.int _), some (.float .f64) => some (.cvIF a)
      | some .string, some (.slice e) => match P.underlying e with
        | some (.int .u8) => some (.cvSB a)
        | _ => none
      | some (.slice e), some .string => match P.underlying e with
        | some (.int .u8) => some (.cvBS a)
        | _ => none
      | some (.slice _), some (.slice e) => match P.underlying e with
        | some (.int .u8) => bif s == d then some (.cvBB a) else none
        | _ => none
      | some .string, some .string => some (.cvSS a)
      | _, _ => none
    | none => none
  | .makeInterface t x => match cOpd x, P.underlying t with
    | some _, some (.interface _) => none
    | some a, some _ => some (.mkI t a)
    | _, _ => none
  | .makeFunc (.func f) first capt => match cOpds first.toList, cOpds capt.toList with
    | some a, some b => some (.mkF (tp f) a b)
    | _, _ => none
  | .makeMap _ none => some .mkMap
  | .makeSlice t l c => match sliceElem P t with
    | some e => match sizeT P e, bytesT P e, zeroCells P e, cOpd l, cOpd c with
      | some sz, some bytes, some z, some l, some c => some (.mkSlice sz bytes z l c)
      | _, _, _, _, _ => none
    | none => none
  | .slice t x lo hi mx => match cOpd x, cOpdO lo, cOpdO hi, cOpdO mx with
    | some x, some lo, some hi, some mx => bif mx.isSome && hi.isNone then none else match P.underlying t with
      | some .string => some (.slice .str x lo hi mx)
      | some (.slice e) => match sizeT P e with
        | some sz => some (.slice (.slc sz) x lo hi mx)
        | none => none
      | some (.array n e) => match sizeT P e with
        | some sz => some (.slice (.arr n sz) x lo hi mx)
        | none => none
      | _ => none
    | _, _, _, _ => none
  | .fieldAddr s x f => match P.underlying s, cOpd x with
    | some (.struct fs), some a => match fs[f]? with
      | some fd => match sizeT P fd.type with
        | some (_ + 1) => some (.fieldA fd.offset a)
        | _ => none
      | none => none
    | _, _ => none
  | .field s x f => match P.underlying s, cOpd x with
    | some (.struct fs), some a => match fs[f]? with
      | some fd => match sizeT P fd.type, isAggT P fd.type with
        | some n, some g => some (.fieldV fd.offset n g a)
        | _, _ => none
      | none => none
    | _, _ => none
  | .indexAddr t x i => match P.underlying t, cOpd x, cOpd i with
    | some (.array n e), some x, some i => match sizeT P e with
      | some sz => some (.idxA (some n) sz x i)
      | none => none
    | some (.slice e), some x, some i => match sizeT P e with
      | some sz => some (.idxA none sz x i)
      | none => none
    | _, _, _ => none
  | .index t x i => match P.underlying t, cOpd x, cOpd i with
    | some (.array n e), some x, some i => match sizeT P e, isAggT P e with
      | some sz, some g => some (.idxV (.arr n sz g) x i)
      | _, _ => none
    | some .string, some x, some i => some (.idxV .str x i)
    | _, _, _ => none
  | .lookup t x i ok => match P.underlying t, cOpd x, cOpd i with
    | some (.map kt e), some x, some i => match keyKind P kt, (P.info? e) with
      | some (str, ik), some inf => match inf.zero with
        | some z => match ofVal z with
          | some z => some (.lookup str ik z x i ok)
          | none => none
        | none => none
      | _, _ => none
    | _, _, _ => none
  | .mapUpdate t m k v => match P.underlying t, cOpd m, cOpd k, cOpd v with
    | some (.map kt _), some m, some k, some v => match keyKind P kt with
      | some (str, ik) => some (.mapUpd str ik m k v)
      | none => none
    | _, _, _, _ => none
  | .extract t i => match cOpd t with
    | some a => some (.extract a i)
    | none => none
  | .call c => cCall P ms c
  | .panic x => match cOpd x with
    | some a => some (.panic a)
    | none => none
  | _ => none

/-- the slot of another operation of the region -/
def cGuard (ops : Array Oper) (nt : Nat) : Option (Nat × Bool) → Option (Option (Pos × Bool))
  | none => some none
  | some (j, b) => match (ops[j]?).bind (·.dst) with
    | some d => bif Nat.blt d nt then some (some (tp d, b)) else none
    | none => none

def cOper (P : Program) (ms : List String) (ops : Array Oper) (nt : Nat) (o : Oper) : Option ROp :=
  match cOp P ms o.op, cGuard ops nt o.guard with
  | some a, some g => match o.dst with
    | none => some ⟨none, a, g⟩
    | some d => bif Nat.blt d nt then some ⟨some (tp d), a, g⟩ else none
  | _, _ => none

def cOpers (P : Program) (ms : List String) (ops : Array Oper) (nt : Nat) : List Oper → Option (List ROp)
  | [] => some []
  | o :: l => match cOper P ms ops nt o, cOpers P ms ops nt l with
    | some a, some r => some (a :: r)
    | _, _ => none

end Go.Proofs.YtgaoddafkjdecaaGreat.EV
