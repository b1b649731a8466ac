/-
  EV, part A: abstract values, abstract memory, and an evaluator for compiled code that the kernel can run. Own work of this claim; generic over programs.
-/
import Derived.Orders
import Derived.Laws.Cells
import Derived.Below
namespace Go.Proofs.YtgaoddafkjdecaaGreat.EV

inductive Pos where
  | one | o (p : Pos) | i (p : Pos)
  deriving DecidableEq

def Pos.succ : Pos → Pos
  | .one => .o .one
  | .o p => .i p
  | .i p => .o p.succ

def Pos.nat : Pos → Nat
  | .one => 1
  | .o p => 2 * p.nat
  | .i p => 2 * p.nat + 1

/-- the name of a temporary -/
def tp : Nat → Pos
  | 0 => .one
  | n + 1 => (tp n).succ

inductive Tr (α : Type) where
  | lf | nd (v : Option α) (l r : Tr α)

noncomputable section

def Tr.get {α : Type} (p : Pos) : Tr α → Option α :=
  Pos.rec (motive := fun _ => Tr α → Option α) (fun t => Tr.rec none (fun v _ _ _ _ => v) t)
   (fun _ ih t => Tr.rec none (fun _ l _ _ _ => ih l) t) (fun _ ih t => Tr.rec none (fun _ _ r _ _ => ih r) t) p

/-- set, and go on: the spine is laid out before the going on -/
def Tr.setK {α β : Type} (x : Option α) (p : Pos) : Tr α → (Tr α → β) → β :=
  Pos.rec (motive := fun _ => Tr α → (Tr α → β) → β)
   (fun t k => Tr.rec (k (.nd x .lf .lf)) (fun _ l r _ _ => k (.nd x l r)) t)
   (fun _ ih t k => Tr.rec (ih .lf (fun l => k (.nd none l .lf))) (fun v l r _ _ => ih l (fun l => k (.nd v l r))) t)
   (fun _ ih t k => Tr.rec (ih .lf (fun r => k (.nd none .lf r))) (fun v l r _ _ => ih r (fun r => k (.nd v l r))) t) p

def Tr.set {α : Type} (x : Option α) (p : Pos) (t : Tr α) : Tr α := t.setK x p id

def fN {β : Type} (n : Nat) (k : Nat → β) : β := Nat.rec (k 0) (fun m _ => k (Nat.succ m)) n
def fI {β : Type} (x : Int) (k : Int → β) : β := Int.rec (fun n => fN n fun n => k (.ofNat n)) (fun n => fN n fun n => k (.negSucc n)) x

def ldrop {α : Type} (n : Nat) : List α → List α :=
  Nat.rec (motive := fun _ => List α → List α) (fun l => l) (fun _ ih l => List.rec [] (fun _ t _ => ih t) l) n
/-- just n of them, or none -/
def ltake {α : Type} (n : Nat) : List α → Option (List α) :=
  Nat.rec (motive := fun _ => List α → Option (List α)) (fun _ => some [])
    (fun _ ih l => List.rec none (fun a t _ => Option.rec none (fun r => some (a :: r)) (ih t)) l) n
/-- all of vs laid over the beginning of l -/
def lover {α : Type} (vs : List α) : List α → Option (List α) :=
  List.rec (motive := fun _ => List α → Option (List α)) (fun l => some l)
    (fun v _ ih l => List.rec none (fun _ t _ => Option.rec none (fun r => some (v :: r)) (ih t)) l) vs
def lput {α : Type} (n : Nat) (vs : List α) : List α → Option (List α) :=
  Nat.rec (motive := fun _ => List α → Option (List α)) (fun l => lover vs l)
    (fun _ ih l => List.rec none (fun a t _ => Option.rec none (fun r => some (a :: r)) (ih t)) l) n

end

inductive Cap where
  | known (n : Nat)
  | opn (sz : Nat)
  deriving DecidableEq

inductive AV where
  | bool (b : Bool)
  | int (k : IntKind) (n : Int)
  | flt (bits : Nat)
  | str (l : List Nat)
  | nilp
  | ptr (b : Pos) (o : Nat)
  | nils
  | slc (b : Pos) (o len : Nat) (c : Cap)
  | nilm
  | map (b : Pos)
  | nilf
  | clo (f : Pos) (first capt : List AV)
  | nili
  | ifc (t : Nat) (v : AV)
  | agg (l : List AV)
  | tup (l : List AV)
  | box (b : Pos)
  | junk

mutual
def AV.beq : AV → AV → Bool
  | .bool a, .bool b => a == b
  | .int k a, .int j b => k == j && a == b
  | .flt a, .flt b => a == b
  | .str a, .str b => a == b
  | .nilp, .nilp => true
  | .ptr a o, .ptr b q => a == b && o == q
  | .nils, .nils => true
  | .slc a o n c, .slc b q m d => a == b && o == q && n == m && c == d
  | .nilm, .nilm => true
  | .map a, .map b => a == b
  | .nilf, .nilf => true
  | .clo f a b, .clo g c d => f == g && AV.beqs a c && AV.beqs b d
  | .nili, .nili => true
  | .ifc t a, .ifc u b => t == u && AV.beq a b
  | .agg a, .agg b => AV.beqs a b
  | .tup a, .tup b => AV.beqs a b
  | .box a, .box b => a == b
  | _, _ => false
def AV.beqs : List AV → List AV → Bool
  | [], [] => true
  | a :: l, b :: m => AV.beq a b && AV.beqs l m
  | _, _ => false
end

def unA : AV := .tup []

def AV.cells : AV → List AV
  | .agg l => l
  | v => [v]

/-- a value of one cell, and a known one -/
def AV.one : AV → Bool
  | .agg _ | .tup _ | .junk => false
  | _ => true

def AV.known : AV → Bool
  | .junk => false
  | _ => true

inductive AB where
  | cells (ro : Bool) (l : List AV)
  | mp (es : List (AV × AV))

structure AH where
  nx : Pos
  tb : Tr AB

noncomputable section

def AH.get (σ : AH) (b : Pos) : Option AB := σ.tb.get b

def AH.newK {β : Type} (σ : AH) (o : AB) (k : Pos → AH → β) : β :=
  σ.tb.setK (some o) σ.nx fun t => k σ.nx ⟨σ.nx.succ, t⟩

def AH.setK {β : Type} (σ : AH) (b : Pos) (o : Option AB) (k : AH → β) : β :=
  σ.tb.setK o b fun t => k ⟨σ.nx, t⟩

/-- n cells from place o -/
def AH.load (σ : AH) (b : Pos) (o n : Nat) : Option (List AV) :=
  match σ.get b with
  | some (.cells _ l) => ltake n (ldrop o l)
  | _ => none

def AH.storeK {β : Type} (σ : AH) (b : Pos) (o : Nat) (vs : List AV) (k : AH → Option β) : Option β :=
  match σ.get b with
  | some (.cells false l) => match lput o vs l with
    | some l => σ.setK b (some (.cells false l)) k
    | none => none
  | _ => none
end

/-! ### Compiled code -/

inductive AO where
  | tmp (p : Pos)
  | const (v : AV)

inductive EK where
  | bool | ptr | slice | map | func | iface
  deriving DecidableEq

inductive SK where
  | str
  | slc (sz : Nat)
  | arr (n sz : Nat)

inductive IK where
  | str
  | arr (n sz : Nat) (agg : Bool)

inductive AOp where
  | mv (x : AO)
  | pick (c a b : AO)
  | alloc (zero : List AV)
  | box (n : Nat) (x : AO)
  | build (zero : List AV) (parts : List (Nat × Nat × AO))
  | bslice (len : Nat) (zero : List AV) (parts : List (Nat × Nat × AO))
  | load1 (a : AO)
  | loadN (n : Nat) (a : AO)
  | store (n : Nat) (a x : AO)
  | nilck (x : AO)
  | bin (op : BinOp) (x y : AO)
  | eq (neg : Bool) (k : EK) (x y : AO)
  | un (op : UnOp) (x : AO)
  | cvII (k : IntKind) (x : AO)
  | cvIF (x : AO)
  | cvSB (x : AO)
  | cvBS (x : AO)
  | cvBB (x : AO)
  | cvSS (x : AO)
  | mkI (t : Nat) (x : AO)
  | mkF (f : Pos) (first capt : List AO)
  | mkMap
  | mkSlice (sz bytes : Nat) (zero : List AV) (l c : AO)
  | slice (k : SK) (x : AO) (lo hi mx : Option AO)
  | fieldA (off : Nat) (x : AO)
  | fieldV (off n : Nat) (agg : Bool) (x : AO)
  | idxA (n : Option Nat) (sz : Nat) (x i : AO)
  | idxV (k : IK) (x i : AO)
  | lookup (str : Bool) (k : IntKind) (zero : AV) (x i : AO) (ok : Bool)
  | mapUpd (str : Bool) (k : IntKind) (m key v : AO)
  | extract (t : AO) (i : Nat)
  | callF (f : Pos) (args : List AO)
  | callV (x : AO) (args : List AO)
  | callI (recv : AO) (name : Nat) (args : List AO)
  | append (sz bytes : Nat) (x y : AO)
  | appendZ (sz bytes : Nat) (zero : List AV) (x n : AO)
  | copy (sz : Nat) (x y : AO)
  | clearS (sz : Nat) (zero : List AV) (x : AO)
  | len (k : Nat) (x : AO)
  | cap (x : AO)
  | min (x y : AO)
  | max (x y : AO)
  | delete (str : Bool) (k : IntKind) (m key : AO)
  | panic (x : AO)
  | fbits (x : AO)
  | ffrom (x : AO)

/-- it makes a block and does nothing else -/
def AOp.madeBy : AOp → Bool
  | .alloc _ | .box _ _ | .bslice _ _ _ | .cvSB _ | .mkMap | .mkSlice _ _ _ _ _ => true
  | _ => false

/-- it may change what was there -/
def AOp.loud : AOp → Bool
  | .store _ _ _ | .mapUpd _ _ _ _ _ | .callF _ _ | .callV _ _ | .callI _ _ _ | .append _ _ _ _ | .appendZ _ _ _ _ _ | .copy _ _ _ | .clearS _ _ _
  | .delete _ _ _ _ | .panic _ => true
  | _ => false

/-- it looks at memory -/
def AOp.reads : AOp → Bool
  | .load1 _ | .loadN _ _ | .cvBS _ | .cvBB _ | .slice _ _ _ _ _ | .lookup _ _ _ _ _ _ | .len _ _ => true
  | _ => false

def AV.blk : AV → Option Pos
  | .ptr b _ | .slc b _ _ _ | .map b => some b
  | _ => none

structure ROp where
  dst : Option Pos
  op : AOp
  guard : Option (Pos × Bool)

/-- a stage of a plan: look that what was read or made reads the same; run operations without effect; then one with an effect -/
structure Stage where
  chks : List Nat
  runs : List Nat
  eff : Option Nat

inductive ACode where
  | skip
  | region (ops : List ROp)
  | drawn (ops : List ROp) (plan : List Stage)
  | seq (a b : ACode)
  | cond (c : AO) (t e : ACode)
  | block (id : Nat) (b : ACode)
  | loop (b : ACode)
  | exit (id : Nat)
  | forget (ps : List Pos)
  | ret

inductive RVar where
  | tmp (p : Pos)
  | cell (p : Pos) (n : Nat) (agg : Bool)

structure AFn where
  nparams : Nat
  results : List RVar
  body : ACode

/-! ### The evaluator -/

abbrev Env := Tr AV

/-- how an operation, a call ends -/
inductive Out where
  | val (v : AV)
  | pan (v : AV)

abbrev Call := Pos → List AV → AH → Option (Out × AH)
/-- which function a method of a type is -/
abbrev Disp := Nat → Nat → Option Pos

noncomputable section

def AO.ev (ρ : Env) : AO → AV
  | .tmp p => Option.rec unA (fun v => v) (ρ.get p)
  | .const v => v

def AO.evs (ρ : Env) : List AO → List AV
  | [] => []
  | x :: l => x.ev ρ :: AO.evs ρ l

def wrF (k : IntKind) (x : Int) : Int :=
  match k, x with
  | .i64, .ofNat n => bif Nat.ble n 9223372036854775807 then .ofNat n else IntKind.wrap .i64 (.ofNat n)
  | .u64, .ofNat n => bif Nat.ble n 18446744073709551615 then .ofNat n else IntKind.wrap .u64 (.ofNat n)
  | .u8, .ofNat n => .ofNat (n % 256)
  | k, x => k.wrap x

def ilt : Int → Int → Bool
  | .ofNat a, .ofNat b => Nat.blt a b
  | .negSucc a, .negSucc b => Nat.blt b a
  | .negSucc _, .ofNat _ => true
  | .ofNat _, .negSucc _ => false

def ieq : Int → Int → Bool
  | .ofNat a, .ofNat b => Nat.beq a b
  | .negSucc a, .negSucc b => Nat.beq a b
  | _, _ => false

def lless : List Nat → List Nat → Bool
  | _, [] => false
  | [], _ :: _ => true
  | a :: x, b :: y => bif Nat.blt a b then true else bif Nat.beq a b then lless x y else false

def leqN : List Nat → List Nat → Bool
  | [], [] => true
  | a :: x, b :: y => bif Nat.beq a b then leqN x y else false
  | _, _ => false

def outI (k : IntKind) (x : Int) : Option AV := fI x fun x => some (.int k x)

def evBits (op : BinOp) (k : IntKind) (x y : Int) : Option AV :=
  let a := BitVec.ofInt k.bits x
  let b := BitVec.ofInt k.bits y
  match op with
  | .and => outI k (k.wrap ((a &&& b).toNat : Int))
  | .or => outI k (k.wrap ((a ||| b).toNat : Int))
  | .xor => outI k (k.wrap ((a ^^^ b).toNat : Int))
  | .andNot => outI k (k.wrap ((a &&& ~~~b).toNat : Int))
  | _ => none

def evBin (op : BinOp) (x y : AV) : Option AV :=
  match x, y with
  | .int k a, .int j b =>
    match op with
    | .shl => match b with
      | .ofNat n => bif Nat.ble n k.bits then outI k (wrF k (a * (2 ^ n : Nat))) else none
      | _ => none
    | .shr => match a, b with
      | .ofNat m, .ofNat n => bif Nat.ble n k.bits then outI k (.ofNat (m / 2 ^ n)) else none
      | _, _ => none
    | .add => bif k == j then outI k (wrF k (a + b)) else none
    | .sub => bif k == j then outI k (wrF k (a - b)) else none
    | .mul => bif k == j then outI k (wrF k (a * b)) else none
    | .quo => match a, b with
      | .ofNat m, .ofNat (n + 1) => bif k == j then outI k (wrF k (.ofNat (m / (n + 1)))) else none
      | _, _ => none
    | .rem => match a, b with
      | .ofNat m, .ofNat (n + 1) => bif k == j then outI k (.ofNat (m % (n + 1))) else none
      | _, _ => none
    | .eql => bif k == j then some (.bool (ieq a b)) else none
    | .neq => bif k == j then some (.bool (!ieq a b)) else none
    | .lss => bif k == j then some (.bool (ilt a b)) else none
    | .leq => bif k == j then some (.bool (!ilt b a)) else none
    | .gtr => bif k == j then some (.bool (ilt b a)) else none
    | .geq => bif k == j then some (.bool (!ilt a b)) else none
    | op => bif k == j then evBits op k a b else none
  | .str a, .str b =>
    match op with
    | .add => bif Nat.ble (a.length + b.length) 9223372036854775807 then some (.str (a ++ b)) else none
    | .eql => some (.bool (leqN a b))
    | .neq => some (.bool (!leqN a b))
    | .lss => some (.bool (lless a b))
    | .leq => some (.bool (lless a b || leqN a b))
    | .gtr => some (.bool !(lless a b || leqN a b))
    | .geq => some (.bool (!lless a b))
    | _ => none
  | .flt a, .flt b =>
    let c := FloatKind.f64.format.order a b
    match op with
    | .eql => some (.bool (c == some .eq))
    | .neq => some (.bool (c != some .eq))
    | .lss => some (.bool (c == some .lt))
    | .leq => some (.bool (c == some .lt || c == some .eq))
    | .gtr => some (.bool (c == some .gt))
    | .geq => some (.bool (c == some .gt || c == some .eq))
    | _ => none
  | _, _ => none

def evEq (k : EK) (x y : AV) : Option Bool :=
  match k, x, y with
  | .bool, .bool a, .bool b => some (a == b)
  | .ptr, .nilp, .nilp => some true
  | .ptr, .nilp, .ptr _ _ => some false
  | .ptr, .ptr _ _, .nilp => some false
  | .slice, .nils, .nils => some true
  | .slice, .nils, .slc _ _ _ _ => some false
  | .slice, .slc _ _ _ _, .nils => some false
  | .map, .nilm, .nilm => some true
  | .map, .nilm, .map _ => some false
  | .map, .map _, .nilm => some false
  | .func, .nilf, .nilf => some true
  | .func, .nilf, .clo _ _ _ => some false
  | .func, .clo _ _ _, .nilf => some false
  | .iface, .nili, .nili => some true
  | .iface, .nili, .ifc _ _ => some false
  | .iface, .ifc _ _, .nili => some false
  | _, _, _ => none

def evUn (op : UnOp) (x : AV) : Option AV :=
  match op, x with
  | .not, .bool b => some (.bool !b)
  | .neg, .int k n => outI k (wrF k (0 - n))
  | .xor, .int k n => evBits .xor k (if k.signed then -1 else k.max) n
  | .neg, .flt b => some (.flt (Op.negFloat .f64 b))
  | _, _ => none

def fillA (cells : List AV) : List (Nat × Nat × AV) → Option (List AV)
  | [] => some cells
  | (off, size, v) :: rest =>
    match v with
    | .junk => none
    | v => bif Nat.beq v.cells.length size then
        match lput off v.cells cells with
        | some cells => fillA cells rest
        | none => none
      else none

def evParts (ρ : Env) : List (Nat × Nat × AO) → List (Nat × Nat × AV)
  | [] => []
  | (o, n, x) :: l => (o, n, x.ev ρ) :: evParts ρ l

def bytesOf : List AV → Option (List Nat)
  | [] => some []
  | .int .u8 (.ofNat n) :: l => bif Nat.blt n 256 then (match bytesOf l with
    | some r => some (n :: r)
    | none => none) else none
  | _ => none

def ofBytes : List Nat → List AV
  | [] => []
  | n :: l => .int .u8 (.ofNat n) :: ofBytes l

def keyEq (str : Bool) (k : IntKind) : AV → AV → Option Bool
  | .int j a, .int j' b => bif !str && j == k && j' == k then some (ieq a b) else none
  | .str a, .str b => bif str then some (leqN a b) else none
  | _, _ => none

def findA (str : Bool) (k : IntKind) (key : AV) : List (AV × AV) → Option (Option AV)
  | [] => some none
  | (a, v) :: l => match keyEq str k key a with
    | some true => some (some v)
    | some false => findA str k key l
    | none => none

def keyOk (str : Bool) (k : IntKind) : AV → Bool
  | .int j _ => !str && j == k
  | .str _ => str
  | _ => false

/-- the entries with a key's value; at the end, if the key is new -/
def updA (str : Bool) (k : IntKind) (key v : AV) : List (AV × AV) → Option (List (AV × AV))
  | [] => some [(key, v)]
  | (a, u) :: l => match keyEq str k key a with
    | some true => some ((key, v) :: l)
    | some false => match updA str k key v l with
      | some r => some ((a, u) :: r)
      | none => none
    | none => none

def delA (str : Bool) (k : IntKind) (key : AV) : List (AV × AV) → Option (List (AV × AV))
  | [] => some []
  | (a, u) :: l => match keyEq str k key a with
    | some true => some l
    | some false => match delA str k key l with
      | some r => some ((a, u) :: r)
      | none => none
    | none => none

def evIx : AV → Option Nat
  | .int _ (.ofNat n) => some n
  | _ => none

/-- a bound of a slice: none stands for 'not given' -/
def evBd (ρ : Env) (dflt : Nat) : Option AO → Option Nat
  | none => some dflt
  | some x => evIx (x.ev ρ)

def okVals : List AV → Bool
  | [] => true
  | v :: l => v.one && okVals l

abbrev OpR := Option (Out × AH)

def val (v : AV) (σ : AH) : OpR := some (.val v, σ)
def valO (v : Option AV) (σ : AH) : OpR := match v with
  | some v => some (.val v, σ)
  | none => none

def fitsIn (σ : AH) (b : Pos) (n : Nat) : Bool :=
  match σ.get b with
  | some (.cells _ cs) => Nat.ble n cs.length
  | _ => false

def evSlice (ρ : Env) (k : SK) (x : AO) (lo hi mx : Option AO) (σ : AH) : OpR :=
  match k, x.ev ρ with
  | .str, .str l =>
    match mx with
    | some _ => none
    | none => match evBd ρ l.length hi with
      | some h => match evBd ρ 0 lo with
        | some lo => bif Nat.ble h l.length && Nat.ble lo h then
            match ltake (h - lo) (ldrop lo l) with
            | some r => val (.str r) σ
            | none => none
          else none
        | none => none
      | none => none
  | .slc _, .nils =>
    match evBd ρ 0 mx, evBd ρ 0 hi, evBd ρ 0 lo with
    | some m, some h, some l => bif Nat.beq m 0 && Nat.beq h 0 && Nat.beq l 0 then val .nils σ else none
    | _, _, _ => none
  | .slc sz, .slc b o len (.known c) =>
    match evBd ρ c mx with
    | some m => match evBd ρ len hi with
      | some h => match evBd ρ 0 lo with
        | some l => bif (mx.isNone || Nat.ble m c) && Nat.ble h m && Nat.ble l h then
            fN (bif Nat.beq m l then o else o + l * sz) fun o => fN (h - l) fun n => fN (m - l) fun c => val (.slc b o n (.known c)) σ
          else none
        | none => none
      | none => none
    | none => none
  | .slc sz, .slc b o len (.opn sz') =>
    bif Nat.beq sz sz' then
      match mx with
      | some mx => match evIx (mx.ev ρ) with
        | some m => match evBd ρ len hi with
          | some h => match evBd ρ 0 lo with
            | some l => bif Nat.ble m len && Nat.ble h m && Nat.ble l h && !Nat.beq m l then
                fN (o + l * sz) fun o => fN (h - l) fun n => fN (m - l) fun c => val (.slc b o n (.known c)) σ
              else none
            | none => none
          | none => none
        | none => none
      | none =>
        match evBd ρ len hi with
        | some h => match evBd ρ 0 lo with
          | some l => bif Nat.ble l h && (Nat.ble h len || (Nat.blt 0 sz && fitsIn σ b (o + h * sz))) then
              fN (o + l * sz) fun o => fN (h - l) fun n => val (.slc b o n (.opn sz)) σ
            else none
          | none => none
        | none => none
    else none
  | .arr n sz, .ptr b o =>
    match evBd ρ n mx with
    | some m => match evBd ρ n hi with
      | some h => match evBd ρ 0 lo with
        | some l => bif Nat.ble m n && Nat.ble h m && Nat.ble l h then
            fN (bif Nat.beq m l then o else o + l * sz) fun o => fN (h - l) fun k => fN (m - l) fun c => val (.slc b o k (.known c)) σ
          else none
        | none => none
      | none => none
    | none => none
  | _, _ => none

/-- the cells of what is appended or copied -/
def srcCells (σ : AH) (sz n : Nat) : AV → Option (List AV)
  | .nils => bif Nat.beq n 0 then some [] else none
  | .slc b o _ _ => σ.load b o (n * sz)
  | .str l => bif Nat.beq sz 1 then (match ltake n l with | some r => some (ofBytes r) | none => none) else none
  | _ => none

def lenOf : AV → Option Nat
  | .nils => some 0
  | .slc _ _ n _ => some n
  | .str l => some l.length
  | _ => none

def newOpen (sz n : Nat) (cells : List AV) (σ : AH) : OpR :=
  fN n fun n => σ.newK (.cells false cells) fun b σ => val (.slc b 0 n (.opn sz)) σ

def appendCells (sz : Nat) (x : AV) (n : Nat) (new : List AV) (σ : AH) : OpR :=
  match x with
  | .nils => bif Nat.beq n 0 then val .nils σ else newOpen sz n new σ
  | .slc b o len (.known c) =>
    bif Nat.ble (len + n) c then
      bif okVals new then σ.storeK b (o + len * sz) new fun σ => fN (len + n) fun m => val (.slc b o m (.known c)) σ else none
    else match σ.load b o (len * sz) with
      | some old => newOpen sz (len + n) (old ++ new) σ
      | none => none
  | .slc b o len (.opn s') =>
    bif Nat.beq s' sz then
      bif Nat.beq n 0 then val x σ else
      match σ.get b with
      | some (.cells false cs) =>
        bif Nat.blt 0 sz && Nat.ble (o + (len + n) * sz) cs.length then
          bif okVals new then σ.storeK b (o + len * sz) new fun σ => fN (len + n) fun m => val (.slc b o m (.opn sz)) σ else none
        else match ltake (len * sz) (ldrop o cs) with
          | some old => bif okVals new then σ.setK b none fun σ => newOpen sz (len + n) (old ++ new) σ else none
          | none => none
      | _ => none
    else none
  | _ => none

/-- sizes stay small: what an append may ask for is far from the model's bounds -/
def small (n bytes : Nat) : Bool := Nat.ble ((n + 1) * (bytes + 1)) 17179869184

def evOp (tbl : Disp) (call : Call) (ρ : Env) (σ : AH) : AOp → OpR
  | .mv x => val (x.ev ρ) σ
  | .pick c a b => match c.ev ρ with
    | .bool t => val (bif t then a.ev ρ else b.ev ρ) σ
    | _ => none
  | .alloc zero => σ.newK (.cells false zero) fun b σ => val (.ptr b 0) σ
  | .box n x => match x.ev ρ with
    | .junk => none
    | v => bif Nat.beq v.cells.length n then σ.newK (.cells false v.cells) fun b σ => val (.ptr b 0) σ else none
  | .build zero parts => match fillA zero (evParts ρ parts) with
    | some cs => val (.agg cs) σ
    | none => none
  | .bslice len zero parts => match fillA zero (evParts ρ parts) with
    | some cs => σ.newK (.cells false cs) fun b σ => val (.slc b 0 len (.known len)) σ
    | none => none
  | .load1 a => match a.ev ρ with
    | .ptr b o => match σ.load b o 1 with
      | some [v] => val v σ
      | _ => none
    | _ => none
  | .loadN n a => match a.ev ρ with
    | .ptr b o => match σ.load b o n with
      | some l => val (.agg l) σ
      | none => none
    | _ => none
  | .store n a x => match a.ev ρ with
    | .ptr b o => match x.ev ρ with
      | .junk => none
      | v => bif Nat.beq v.cells.length n && okVals v.cells then σ.storeK b o v.cells fun σ => val unA σ else none
    | _ => none
  | .nilck x => match x.ev ρ with
    | .ptr b o => val (.ptr b o) σ
    | _ => none
  | .bin op x y => valO (evBin op (x.ev ρ) (y.ev ρ)) σ
  | .eq neg k x y => match evEq k (x.ev ρ) (y.ev ρ) with
    | some b => val (.bool (bif neg then !b else b)) σ
    | none => none
  | .un op x => valO (evUn op (x.ev ρ)) σ
  | .cvII k x => match x.ev ρ with
    | .int _ n => valO (outI k (wrF k n)) σ
    | _ => none
  | .cvIF x => match x.ev ρ with
    | .int _ n => fN (FloatKind.f64.nearest n) fun b => val (.flt b) σ
    | _ => none
  | .cvSB x => match x.ev ρ with
    | .str l => bif small l.length 1 then newOpen 1 l.length (ofBytes l) σ else none
    | _ => none
  | .cvBS x => match x.ev ρ with
    | .nils => val (.str []) σ
    | .slc b o n _ => match σ.load b o n with
      | some cs => match bytesOf cs with
        | some l => val (.str l) σ
        | none => none
      | none => none
    | _ => none
  | .cvBB x => match x.ev ρ with
    | .slc b o n (.known c) => match σ.get b with
      | some (.cells false _) => val (.slc b o n (.known c)) σ
      | _ => none
    | _ => none
  | .cvSS x => match x.ev ρ with
    | .str l => val (.str l) σ
    | _ => none
  | .mkI t x => val (.ifc t (x.ev ρ)) σ
  | .mkF f first capt => val (.clo f (AO.evs ρ first) (AO.evs ρ capt)) σ
  | .mkMap => σ.newK (.mp []) fun b σ => val (.map b) σ
  | .mkSlice sz bytes zero l c => match evIx (l.ev ρ), evIx (c.ev ρ) with
    | some l, some c => bif Nat.ble l c && small c bytes && Nat.beq zero.length sz then
        fN l fun l => fN c fun c => σ.newK (.cells false ((List.replicate c zero).flatten)) fun b σ => val (.slc b 0 l (.known c)) σ
      else none
    | _, _ => none
  | .slice k x lo hi mx => evSlice ρ k x lo hi mx σ
  | .fieldA off x => match x.ev ρ with
    | .ptr b o => fN (o + off) fun o => val (.ptr b o) σ
    | _ => none
  | .fieldV off n agg x => match x.ev ρ with
    | .agg l => bif agg then (match ltake n (ldrop off l) with
        | some r => val (.agg r) σ
        | none => none)
      else (match ldrop off l with
        | v :: _ => val v σ
        | [] => none)
    | _ => none
  | .idxA n sz x i => match n, x.ev ρ, evIx (i.ev ρ) with
    | some n, .ptr b o, some i => bif Nat.blt i n then fN (o + i * sz) fun o => val (.ptr b o) σ else none
    | none, .slc b o len _, some i => bif Nat.blt i len then fN (o + i * sz) fun o => val (.ptr b o) σ else none
    | _, _, _ => none
  | .idxV k x i => match k, x.ev ρ, evIx (i.ev ρ) with
    | .str, .str l, some i => (match ldrop i l with
        | n :: _ => val (.int .u8 (.ofNat n)) σ
        | [] => none)
    | .arr n sz agg, .agg l, some i => bif Nat.blt i n then
        (bif agg then (match ltake sz (ldrop (i * sz) l) with
          | some r => val (.agg r) σ
          | none => none)
        else (match ldrop (i * sz) l with
          | v :: _ => val v σ
          | [] => none)) else none
    | _, _, _ => none
  | .lookup str k zero x i ok => match x.ev ρ with
    | .nilm => bif keyOk str k (i.ev ρ) then val (bif ok then .tup [zero, .bool false] else zero) σ else none
    | .map b => match σ.get b with
      | some (.mp es) => bif keyOk str k (i.ev ρ) then
          (match findA str k (i.ev ρ) es with
          | some (some v) => val (bif ok then .tup [v, .bool true] else v) σ
          | some none => val (bif ok then .tup [zero, .bool false] else zero) σ
          | none => none) else none
      | _ => none
    | _ => none
  | .mapUpd str k m key v => match m.ev ρ with
    | .map b => match σ.get b with
      | some (.mp es) => bif keyOk str k (key.ev ρ) then
          (match updA str k (key.ev ρ) (v.ev ρ) es with
          | some es => σ.setK b (some (.mp es)) fun σ => val unA σ
          | none => none) else none
      | _ => none
    | _ => none
  | .extract t i => match t.ev ρ with
    | .tup l => (match ldrop i l with
      | v :: _ => val v σ
      | [] => none)
    | _ => none
  | .callF f args => call f (AO.evs ρ args) σ
  | .callV x args => match x.ev ρ with
    | .clo f first capt => call f (first ++ AO.evs ρ args ++ capt) σ
    | _ => none
  | .callI recv name args => match recv.ev ρ with
    | .ifc t v => match tbl t name with
      | some f => call f (v :: AO.evs ρ args) σ
      | none => none
    | _ => none
  | .append sz bytes x y => match lenOf (y.ev ρ), lenOf (x.ev ρ) with
    | some n, some m => bif small (m + n) bytes then
        (match srcCells σ sz n (y.ev ρ) with
        | some new => appendCells sz (x.ev ρ) n new σ
        | none => none) else none
    | _, _ => none
  | .appendZ sz bytes zero x n => match evIx (n.ev ρ), lenOf (x.ev ρ) with
    | some n, some m => bif small (m + n) bytes && Nat.beq zero.length sz then
        appendCells sz (x.ev ρ) n ((List.replicate n zero).flatten) σ else none
    | _, _ => none
  | .copy sz x y => match x.ev ρ, lenOf (y.ev ρ) with
    | .nils, some _ => val (.int .i64 0) σ
    | .slc b o a _, some m => fN (bif Nat.ble a m then a else m) fun n => bif Nat.beq n 0 then val (.int .i64 0) σ else
        (match srcCells σ sz n (y.ev ρ) with
        | some new => bif okVals new then σ.storeK b o new fun σ => val (.int .i64 (.ofNat n)) σ else none
        | none => none)
    | _, _ => none
  | .clearS sz zero x => match x.ev ρ with
    | .nils => val unA σ
    | .slc b o n _ => bif Nat.beq zero.length sz && okVals zero then
        bif Nat.beq n 0 then val unA σ else σ.storeK b o ((List.replicate n zero).flatten) fun σ => val unA σ else none
    | _ => none
  | .len k x => match k, x.ev ρ with
    | 2, .map b => match σ.get b with
      | some (.mp es) => fN es.length fun n => val (.int .i64 (.ofNat n)) σ
      | _ => none
    | 2, .nilm => val (.int .i64 0) σ
    | 0, .str l => fN l.length fun n => val (.int .i64 (.ofNat n)) σ
    | 1, .nils => val (.int .i64 0) σ
    | 1, .slc _ _ n _ => val (.int .i64 (.ofNat n)) σ
    | _, _ => none
  | .cap x => match x.ev ρ with
    | .nils => val (.int .i64 0) σ
    | .slc _ _ _ (.known c) => fN c fun c => val (.int .i64 (.ofNat c)) σ
    | _ => none
  | .min x y => match x.ev ρ, y.ev ρ with
    | .int k a, .int j b => bif k == j then val (.int k (bif ilt b a then b else a)) σ else none
    | _, _ => none
  | .max x y => match x.ev ρ, y.ev ρ with
    | .int k a, .int j b => bif k == j then val (.int k (bif ilt a b then b else a)) σ else none
    | _, _ => none
  | .delete str k m key => match m.ev ρ with
    | .nilm => val unA σ
    | .map b => match σ.get b with
      | some (.mp es) => bif keyOk str k (key.ev ρ) then
          (match delA str k (key.ev ρ) es with
          | some es => σ.setK b (some (.mp es)) fun σ => val unA σ
          | none => none) else none
      | _ => none
    | _ => none
  | .panic x => match x.ev ρ with
    | .ifc t v => some (.pan (.ifc t v), σ)
    | _ => none
  | .fbits x => match x.ev ρ with
    | .flt b => val (.int .u64 (.ofNat b)) σ
    | _ => none
  | .ffrom x => match x.ev ρ with
    | .int .u64 (.ofNat b) => val (.flt b) σ
    | _ => none

def setD {β : Type} (ρ : Env) (d : Option Pos) (v : AV) (k : Env → β) : β :=
  match d with
  | some p => ρ.setK (some v) p k
  | none => k ρ

/-- is an operation wanted? none: not known -/
def wants (ρ : Env) : Option (Pos × Bool) → Option Bool
  | none => some true
  | some (p, want) => match AO.ev ρ (.tmp p) with
    | .bool b => some (b == want)
    | .tup [] => some false
    | _ => none

inductive AX where
  | norm | exit (id : Nat) | ret | pan (v : AV)

abbrev Res := Option (AX × Env × AH)

def evOps (tbl : Disp) (call : Call) (ops : List ROp) : Env → AH → Res :=
  List.rec (motive := fun _ => Env → AH → Res) (fun ρ σ => some (.norm, ρ, σ))
    (fun r _ ih ρ σ => match wants ρ r.guard with
      | some true => match evOp tbl call ρ σ r.op with
        | some (.val v, σ) => setD ρ r.dst v fun ρ => ih ρ σ
        | some (.pan v, σ) => some (.pan v, ρ, σ)
        | none => none
      | some false => setD ρ r.dst unA fun ρ => ih ρ σ
      | none => none) ops

def nthR (n : Nat) : List ROp → Option ROp :=
  Nat.rec (motive := fun _ => List ROp → Option ROp) (fun l => List.rec none (fun a _ _ => some a) l)
    (fun _ ih l => List.rec none (fun _ t _ => ih t) l) n

/-- one operation of a region -/
def evOne (tbl : Disp) (call : Call) (ops : List ROp) (i : Nat) (ρ : Env) (σ : AH) (k : Env → AH → Res) : Res :=
  match nthR i ops with
  | some r => match wants ρ r.guard with
    | some true => match evOp tbl call ρ σ r.op with
      | some (.val v, σ) => setD ρ r.dst v fun ρ => k ρ σ
      | _ => none
    | some false => setD ρ r.dst unA fun ρ => k ρ σ
    | none => none
  | none => none

def AB.beq : AB → AB → Bool
  | .cells r l, .cells s m => r == s && AV.beqs l m
  | .mp [], .mp [] => true
  | _, _ => false

def evChk (tbl : Disp) (call : Call) (ops : List ROp) (i : Nat) (ρ : Env) (σ : AH) (k : Res) : Res :=
  match nthR i ops with
  | some r => match wants ρ r.guard with
    | some true => match r.dst with
      | some d => match r.op.madeBy with
        | true => match evOp tbl call ρ σ r.op with
          | some (.val v, τ) => match v.blk, (AO.ev ρ (.tmp d)).blk with
            | some b, some c => match τ.get b, σ.get c with
              | some x, some y => bif AB.beq x y then k else none
              | _, _ => none
            | _, _ => none
          | _ => none
        | false => match evOp tbl call ρ σ r.op with
          | some (.val v, _) => bif AV.beq v (AO.ev ρ (.tmp d)) then k else none
          | _ => none
      | none => none
    | some false => k
    | none => none
  | none => none

def evChks (tbl : Disp) (call : Call) (ops : List ROp) (ρ : Env) (σ : AH) (k : Res) : List Nat → Res
  | [] => k
  | i :: l => evChk tbl call ops i ρ σ (evChks tbl call ops ρ σ k l)

def evRuns (tbl : Disp) (call : Call) (ops : List ROp) (k : Env → AH → Res) : List Nat → Env → AH → Res
  | [] => k
  | i :: l => fun ρ σ => evOne tbl call ops i ρ σ (evRuns tbl call ops k l)

def evPlan (tbl : Disp) (call : Call) (ops : List ROp) : List Stage → Env → AH → Res
  | [] => fun ρ σ => some (.norm, ρ, σ)
  | s :: l => fun ρ σ => evChks tbl call ops ρ σ (evRuns tbl call ops (fun ρ σ => match s.eff with
      | some i => evOne tbl call ops i ρ σ (evPlan tbl call ops l)
      | none => evPlan tbl call ops l ρ σ) s.runs ρ σ) s.chks

def forget (ps : List Pos) (ρ : Env) (k : Env → Res) : Res :=
  match ps with
  | [] => k ρ
  | p :: ps => ρ.setK (some .junk) p fun ρ => forget ps ρ k

/-- rounds of a loop -/
def evLoop (body : Env → AH → Res) (n : Nat) : Env → AH → Res :=
  Nat.rec (motive := fun _ => Env → AH → Res) (fun _ _ => none)
    (fun _ ih ρ σ => match body ρ σ with
      | some (.norm, ρ, σ) => ih ρ σ
      | r => r) n

def evCode (tbl : Disp) (call : Call) (rounds : Nat) : ACode → Env → AH → Res
  | .skip => fun ρ σ => some (.norm, ρ, σ)
  | .region ops => evOps tbl call ops
  | .drawn ops plan => evPlan tbl call ops plan
  | .seq a b => fun ρ σ => match evCode tbl call rounds a ρ σ with
    | some (.norm, ρ, σ) => evCode tbl call rounds b ρ σ
    | r => r
  | .cond c t e => fun ρ σ => match c.ev ρ with
    | .bool true => evCode tbl call rounds t ρ σ
    | .bool false => evCode tbl call rounds e ρ σ
    | _ => none
  | .block id b => fun ρ σ => match evCode tbl call rounds b ρ σ with
    | some (.exit j, ρ, σ) => bif Nat.beq j id then some (.norm, ρ, σ) else some (.exit j, ρ, σ)
    | r => r
  | .loop b => evLoop (evCode tbl call rounds b) rounds
  | .exit id => fun ρ σ => some (.exit id, ρ, σ)
  | .forget ps => fun ρ σ => forget ps ρ fun ρ => some (.norm, ρ, σ)
  | .ret => fun ρ σ => some (.ret, ρ, σ)

def bindArgs (n : Nat) (args : List AV) (ρ : Env) (k : Env → Option (Out × AH)) : Option (Out × AH) :=
  match args with
  | [] => k ρ
  | a :: args => ρ.setK (some a) (tp n) fun ρ => bindArgs (n + 1) args ρ k

def evRes (ρ : Env) (σ : AH) : List RVar → Option (List AV)
  | [] => some []
  | .tmp p :: l => match evRes ρ σ l with
    | some r => some (AO.ev ρ (.tmp p) :: r)
    | none => none
  | .cell p n agg :: l => match AO.ev ρ (.tmp p), evRes ρ σ l with
    | .ptr b o, some r => (match σ.load b o n with
      | some cs => bif agg then some (.agg cs :: r) else (match cs with
        | [v] => some (v :: r)
        | _ => none)
      | none => none)
    | _, _ => none

def packRes : List AV → AV
  | [v] => v
  | l => .tup l

def evFn (tbl : Disp) (call : Call) (rounds : Nat) (fn : AFn) (args : List AV) (σ : AH) : Option (Out × AH) :=
  bif Nat.beq args.length fn.nparams then
    bindArgs 0 args .lf fun ρ => match evCode tbl call rounds fn.body ρ σ with
      | some (.norm, ρ, σ) | some (.ret, ρ, σ) => (match evRes ρ σ fn.results with
        | some l => some (.val (packRes l), σ)
        | none => none)
      | some (.pan v, _, σ) => some (.pan v, σ)
      | _ => none
  else none

abbrev Prim := Call → List AV → AH → Option (Out × AH)

/-- what is known of a program -/
structure Book where
  tbl : Disp
  fns : Tr AFn
  prims : Tr Prim

def Book.call (B : Book) (rounds : Nat) (n : Nat) : Call :=
  Nat.rec (motive := fun _ => Call) (fun _ _ _ => none)
    (fun _ ih f args σ => match B.prims.get f with
      | some p => p ih args σ
      | none => match B.fns.get f with
        | some fn => evFn B.tbl ih rounds fn args σ
        | none => none) n

end
end Go.Proofs.YtgaoddafkjdecaaGreat.EV
