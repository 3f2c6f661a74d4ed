/- DERIVED. The machine M, tenth part: its evaluation. -/
import Derived.Test.YtgfjmkjhjfmbeaaGreatM9
namespace Go.Proofs.YtgfjmkjhjfmbeaaGreat
open Go.RowKit

/-- A deferred call, or the mark of a range over a function. -/
inductive ADf where
  | mark (d : Nat)
  | call (f : FuncId) (cap args : List Value)

/-- A frame and the heap. -/
structure Fs where
  T : Tr Value
  H : Tr AObj
  n : Nat
  wr : List Nat
  df : List ADf

inductive Ex where
  | normal
  | exit (id : Nat)
  | goto (l : Nat)
  | ret
  | pan (ch : List (Value × Bool))

inductive Task where
  | code (nt : Nat) (rd : Option Nat) (c : Code)
  | loop (nt : Nat) (rd : Option Nat) (c : Code)
  | call (f : FuncId) (args : List Value)
  | dcall (f : FuncId) (args : List Value) (u : Option (List (Value × Bool)))

inductive Res where
  | code (x : Ex) (s : Fs)
  | ret (v : Value) (H : Tr AObj) (n : Nat) (wr : List Nat)
  | pan (ch : List (Value × Bool)) (H : Tr AObj) (n : Nat) (wr : List Nat)
  | bad (why : String) (tr : List Nat)

def aev (T : Tr Value) : Operand → Value
  | .tmp t => (T.get t).getD undef
  | .const v => v
  | .global g => .pointer (some ⟨g, 0, none⟩)
  | .func f => .func (.func f) #[] #[]

def okX (g0 : Nat) : Operand → Bool
  | .tmp _ => true
  | .const v => plainV 8 v
  | .global g => Nat.blt g g0
  | .func _ => true

def okOps (g0 : Nat) (o : Oper) : Bool := o.op.operands.toList.all (okX g0)

def guardOk (ops : Array Oper) (T : Tr Value) (o : Oper) : Bool :=
  match o.guard with
  | none => true
  | some (j, want) =>
    match (ops[j]?).bind (·.dst) with
    | some t => (match T.get t with | some (.bool b) => b == want | _ => false)
    | none => false

def putT (nt : Nat) (T : Tr Value) (dst : Option Tmp) (v : Value) : Option (Tr Value) :=
  match dst with
  | none => some T
  | some d => bif Nat.blt d nt then some (T.set d (some v)) else none

def applyUs (H : Tr AObj) : List (Nat × Option AObj) → Tr AObj
  | [] => H
  | (k, x) :: us => applyUs (H.set k x) us

/-- An operation turns what there is, and one new name at most. -/
def keysOk (n k : Nat) (us : List (Nat × Option AObj)) (G : Gh) : Bool := k.ble 1 && (us.all fun u => (G u.1).isSome || (u.1.beq n && k.beq 1)) && (k.beq 0 || us.any fun u => u.1.beq n)
def callable (P : Program) (f : FuncId) : Bool := match P.funcs[f]? with | some fn => fn.body.isSome && !(fn.name == "runtime.NumGoroutine") | none => false

inductive CallTo where
  | fn (f : FuncId) (args : List Value)
  | yield (l : Nat) (args : List Value)
  | no

/-- The function that a method of an interface's value comes to, where the receiver is that value as it is. -/
def ownMethod (P : Program) (t : TypeId) (name : String) : Option FuncId :=
  match P.info? t with
  | some i => (match i.methods.find? (·.name == name) with
    | some m => bif m.path.isEmpty then (match m.func, P.underlying t with
      | some (f, true), some (.pointer _) => some f
      | some (f, false), some (.struct _) => some f
      | _, _ => none) else none
    | none => none)
  | none => none

def callTo (P : Program) (ev : Operand → Value) (c : Call) : CallTo :=
  match c.callee with
  | .value g =>
    (match ev g with
    | .func (.func f) first cap => .fn f (first.toList ++ c.args.toList.map ev ++ cap.toList)
    | .func (.yield l) _ _ => .yield l (c.args.toList.map ev)
    | _ => .no)
  | .invoke x name => (match ev x with
    | .iface t v => (match ownMethod P t name with | some f => .fn f (v :: c.args.toList.map ev) | none => .no)
    | _ => .no)
  | _ => .no

def isCall (o : Oper) : Option Call := match o.op with | .call c => (match c.callee with | .builtin _ => none | _ => some c) | _ => none

def isDefer (o : Oper) : Bool := match o.op with | .defer _ => true | _ => false
theorem isDefer_false {o : Oper} (h : isDefer o = false) : ∀ c, o.op ≠ .defer c := fun c e => by simp [isDefer, e] at h

/-- The temporaries of a call. -/
def tmpsOf : List Value → Nat → Tr Value → Tr Value
  | [], _, T => T
  | v :: l, k, T => tmpsOf l (k + 1) (T.set k (some v))

def zipSet (nt : Nat) : List (Tmp × Value) → Tr Value → Option (Tr Value)
  | [], T => some T
  | (t, v) :: l, T => bif Nat.blt t nt then zipSet nt l (T.set t (some v)) else none

/-- Of what was written, what was there. -/
def own (n n' : Nat) (wr : List Nat) : List Nat := wr.filter fun k => !(n.ble k && Nat.blt k n')

section
variable (P : Program) (g0 : Nat) (rec : Task → Fs → Res)

/-- One round of a range over a function. -/
def evRound (l : Nat) (args : List Value) (H : Tr AObj) (n : Nat) : Res :=
  match H.get l with
  | some (.loop r) =>
    bif args.length.beq r.params.size then
      match zipSet r.nt (r.params.toList.zip args) r.T with
      | some T =>
        match rec (.code r.nt (some l) r.assign) ⟨T, H, n, [], []⟩ with
        | .code .normal s1 =>
          (match s1.H.get l with
          | some (.loop r1) =>
            (match r1.state with
            | .ready =>
              (match rec (.code r.nt (some l) r.body) { s1 with H := s1.H.set l (some (.loop { r1 with state := .busy })), wr := l :: s1.wr } with
              | .code x s2 =>
                (match s2.H.get l with
                | some (.loop r2) =>
                  (match s2.df with
                  | [] =>
                    (match x with
                    | .normal => .ret (.bool true) (s2.H.set l (some (.loop { r2 with state := .ready, pend := none }))) s2.n (l :: s2.wr)
                    | .ret => .ret (.bool false) (s2.H.set l (some (.loop { r2 with state := .done, pend := some .ret }))) s2.n (l :: s2.wr)
                    | .exit id => .ret (.bool false) (s2.H.set l (some (.loop { r2 with state := .done, pend := some (.exit id) }))) s2.n (l :: s2.wr)
                    | .goto t => .ret (.bool false) (s2.H.set l (some (.loop { r2 with state := .done, pend := some (.goto t) }))) s2.n (l :: s2.wr)
                    | .pan _ => .bad "round: panic" [])
                  | _ => .bad "round: defer" [])
                | _ => .bad "round: no loop behind" [])
              | .bad m tr => .bad m tr
              | _ => .bad "round: body" [])
            | _ => .bad "round: not ready" [])
          | _ => .bad "round: no loop within" [])
        | .bad m tr => .bad m tr
        | _ => .bad "round: assign" []
      | none => .bad "round: slots" []
    else .bad "round: arguments" []
  | _ => .bad "round: no loop" []

/-- A function without a body, of plain data. -/
def evExt (f : FuncId) (args : List Value) (H : Tr AObj) (n : Nat) : Res :=
  bif plainL args then
    (match pureR P (callFunc f args.toArray) with
    | .ok (.value v) => bif plainV 8 v then .ret v H n [] else .bad "extern: what it gives" [f]
    | _ => .bad "call: no body" [f])
  else .bad "call: no body" [f]
/-- A call, whatever is called. -/
def evCall (c : CallTo) (H : Tr AObj) (n : Nat) : Res :=
  match c with
  | .fn f args => bif callable P f then rec (.call f args) ⟨.e, H, n, [], []⟩ else evExt P f args H n
  | .yield l args => (match evRound rec l args H n with | .ret v H n' wr => .ret v H n' (own n n' wr) | .bad m tr => .bad m tr | _ => .bad "round" [])
  | .no => .bad "call: of what?" []

/-- 'defer', outside of rounds. -/
def evDefer (nt : Nat) (rd : Option Nat) (o : Oper) (s : Fs) : Res :=
  match rd with
  | some _ => .bad "defer: in a round" []
  | none =>
    match o.op with
    | .defer c =>
      (match c.callee with
      | .value g =>
        (match aev s.T g with
        | .func (.func f) first cap =>
          (match putT nt s.T o.dst undef with
          | some T => .code .normal { s with T, df := .call f cap.toList (first.toList ++ c.args.toList.map (aev s.T)) :: s.df }
          | none => .bad "slot" [])
        | _ => .bad "defer: of what?" [])
      | _ => .bad "defer: of what?" [])
    | _ => .bad "defer" []

/-- One operation. -/
def evOp (nt : Nat) (rd : Option Nat) (o : Oper) (s : Fs) : Res :=
  bif okOps g0 o then
    match isCall o with
    | some c =>
      (match evCall P rec (callTo P (aev s.T) c) s.H s.n with
      | .ret v H n wr => (match putT nt s.T o.dst v with | some T => .code .normal { s with T, H, n, wr := wr ++ s.wr } | none => .bad "slot" [])
      | .pan ch H n wr => .code (.pan ch) { s with H, n, wr := wr ++ s.wr }
      | .bad m tr => .bad m tr
      | .code _ _ => .bad "call: code" [])
    | none =>
      bif isDefer o then evDefer nt rd o s else
        (match aop P o (aev s.T) s.H.get s.n with
        | .val v us k => bif keysOk s.n k us s.H.get then (match putT nt s.T o.dst v with | some T => .code .normal { s with T, H := applyUs s.H us, n := s.n + k, wr := us.map (·.1) ++ s.wr } | none => .bad "slot" []) else .bad "names" []
        | .pan v => .code (.pan [(v, false)]) s
        | .bad m => .bad m [])
  else .bad "operand" []

def evOps (nt : Nat) (rd : Option Nat) (ops : Array Oper) : List Nat → Fs → Res
  | [], s => .code .normal s
  | i :: l, s =>
    match ops[i]? with
    | none => evOps nt rd ops l s
    | some o =>
      bif guardOk ops s.T o then
        match evOp P g0 rec nt rd o s with
        | .code .normal s' => evOps nt rd ops l s'
        | .code x s' => .code x s'
        | .bad m tr => .bad m tr
        | _ => .bad "operation" []
      else match putT nt s.T o.dst undef with
        | some T => evOps nt rd ops l { s with T }
        | none => .bad "slot" []

/-! ### A region whose order is open -/
def preOf (acc : List Nat) (es : List Edge) : Nat := es.foldl (fun s e => bif Region.binds .any e then s ||| 2 ^ e.on ||| acc.getD e.on 0 else s) 0
def preAll : List Oper → List Nat → List Nat
  | [], acc => acc
  | o :: l, acc => preAll l (acc ++ [preOf acc o.after.toList])

/-- What an operation did: the names that are new, those written over, what it read. -/
structure Rec where
  i : Nat
  v : Value
  lo : Nat
  hi : Nat
  W : List Nat
  ids : Option (List Nat)
  Hin : Tr AObj
  Hout : Tr AObj

def inK (r : Rec) (k : Nat) : Bool := r.W.elem k || (r.lo.ble k && Nat.blt k r.hi)
def seqL : Nat → Nat → List Nat
  | _, 0 => []
  | lo, n + 1 => lo :: seqL (lo + 1) n
/-- What r writes, r' does not read. -/
def apartR (r r' : Rec) : Bool :=
  match r'.ids with
  | some l => l.all fun k => !inK r k
  | none => (r.W.all fun k => (r'.Hin.get k).isNone) && (match r.ids with | some _ => (seqL r.lo (r.hi - r.lo)).all fun k => (r'.Hin.get k).isNone | none => false)
def apartW (r r' : Rec) : Bool := (r.W.all fun k => !inK r' k) && (r'.W.all fun k => !inK r k) && (r.hi.ble r'.lo || r'.hi.ble r.lo)
def freeOf (pre : List Nat) (i j : Nat) : Bool := !(Nat.testBit (pre.getD i 0) j) && !(Nat.testBit (pre.getD j 0) i)
def fits (pre : List Nat) (r : Rec) (rs : List Rec) : Bool := rs.all fun r' => !(freeOf pre r.i r'.i) || (apartR r r' && apartR r' r && apartW r r')

def regOk (ops : Array Oper) (pre : List Nat) : Bool :=
  (seqL 0 ops.size).all fun i => (seqL 0 i).all fun j => !(freeOf pre i j) || (match ops[i]?, ops[j]? with | some x, some y => x.apart ops y | _, _ => false)

def idsV : Value → List Nat
  | .pointer (some a) => [a.block]
  | .slice (some a) _ _ => [a.block]
  | .map (some r) => [r]
  | _ => []
def blind (o : Oper) : Bool := match o.op with
  | .load _ _ | .store _ _ _ | .slice _ _ _ _ _ | .lookup _ _ _ _ | .mapUpdate _ _ _ _ | .insert _ _ _ _ | .convert _ _ _ | .call _ | .mapEntry _ _ _ | .entryStore _ _ _ _ | .range _ _ | .next _ _ | .entry _ => false
  | _ => true
def idsOf (ev : Operand → Value) (o : Oper) : List Nat := bif blind o then [] else o.op.operands.toList.flatMap fun x => idsV (ev x)
def restr (ids : List Nat) (G : Gh) : Gh := fun k => bif ids.elem k then G k else none

/-- The heap without what is free of i. -/
def hide (pre : List Nat) (i : Nat) (H : Tr AObj) : List Rec → Tr AObj
  | [] => H
  | r :: rs => hide pre i (bif freeOf pre i r.i then (seqL r.lo (r.hi - r.lo)).foldl (fun H k => H.set k none) H else H) rs
/-- .. and with it again. -/
def unhide (pre : List Nat) (i : Nat) (H0 H : Tr AObj) : List Rec → Tr AObj
  | [] => H
  | r :: rs => unhide pre i H0 (bif freeOf pre i r.i then (seqL r.lo (r.hi - r.lo)).foldl (fun H k => H.set k (H0.get k)) H else H) rs

def evDraw (nt : Nat) (rd : Option Nat) (ops : Array Oper) (pre : List Nat) : List Nat → Nat → List Rec → Fs → Res
  | [], done, rs, s => bif done.beq (2 ^ ops.size - 1) && rs.length.beq ops.size then .code .normal s else .bad "region: not all" []
  | i :: l, done, rs, s =>
    bif !(done.testBit i) && (pre.getD i 0 &&& done).beq (pre.getD i 0) then
      match ops[i]? with
      | none => .bad "region: no operation" []
      | some o =>
        bif !guardOk ops s.T o then
          (match putT nt s.T o.dst undef with
          | some T => let r : Rec := ⟨i, undef, s.n, s.n, [], some [], .e, s.H⟩
                      bif fits pre r rs then evDraw nt rd ops pre l (done ||| 2 ^ i) (r :: rs) { s with T } else .bad "region: clash" [i]
          | none => .bad "slot" [])
        else bif okOps g0 o then
          match isCall o with
          | some c =>
            let Hin := hide pre i s.H rs
            (match evCall P rec (callTo P (aev s.T) c) Hin s.n with
            | .ret v H n wr => (match putT nt s.T o.dst v with
              | some T =>
                let r : Rec := ⟨i, v, s.n, n, wr, none, Hin, H⟩
                bif fits pre r rs && (wr.all fun k => (Hin.get k).isSome) then evDraw nt rd ops pre l (done ||| 2 ^ i) (r :: rs) { s with T, H := unhide pre i s.H H rs, n, wr := wr ++ s.wr } else .bad "region: clash" [i]
              | none => .bad "slot" [])
            | .bad m tr => .bad m tr
            | _ => .bad "region: panic" [])
          | none =>
            bif isDefer o then .bad "defer" [] else
              let ids := idsOf (aev s.T) o
              (match aop P o (aev s.T) (restr ids s.H.get) s.n with
              | .val v us k => bif keysOk s.n k us (restr ids s.H.get) && ids.all (fun j => Nat.blt j s.n) then (match putT nt s.T o.dst v with
                | some T =>
                  let H := applyUs s.H us
                  let r : Rec := ⟨i, v, s.n, s.n + k, (us.map (fun u => u.1)).filter (fun j => !(s.n.ble j && Nat.blt j (s.n + k))), some ids, .e, H⟩
                  bif fits pre r rs then evDraw nt rd ops pre l (done ||| 2 ^ i) (r :: rs) { s with T, H, n := s.n + k, wr := us.map (·.1) ++ s.wr } else .bad "region: clash" [i]
                | none => .bad "slot" []) else .bad "names" []
              | .pan _ => .bad "region: panic" []
              | .bad m => .bad m [])
        else .bad "operand" []
    else .bad "region: order" [i]

/-- The order in which M takes a region: what a call waits for, the call; then the rest. -/
def planGo (pre : List Nat) : List (Nat × Bool) → Nat → List Nat → List Nat
  | [], _, acc => acc
  | (i, c) :: l, done, acc =>
    bif c then
      let need := (seqL 0 i).filter fun j => Nat.testBit (pre.getD i 0) j && !(Nat.testBit done j)
      planGo pre l (done ||| pre.getD i 0 ||| 2 ^ i) (acc ++ need ++ [i])
    else planGo pre l done acc
def planOf (ops : Array Oper) (pre : List Nat) : List Nat :=
  let a := planGo pre (ops.toList.mapIdx fun i o => (i, (isCall o).isSome)) 0 []
  a ++ (seqL 0 ops.size).filter fun j => !(a.elem j)

/-! ### Code -/
/-- A range over a function: the loop's record, the call, the way out. -/
def evRangeGo (nt : Nat) (rd : Option Nat) (params : Array Tmp) (assign body : Code) (f : FuncId) (first cap : List Value) (s : Fs) (d : Nat) (H1 : Tr AObj) (n1 : Nat) (df1 : List ADf) : Res :=
  match rec (.call f (first ++ [.func (.yield n1) #[] #[]] ++ cap)) ⟨.e, H1.set n1 (some (.loop { state := .ready, pend := none, T := s.T, nt, params, assign, body, defs := d })), n1 + 1, [], []⟩ with
  | .ret _ H n wr =>
    (match H.get n1 with
    | some (.loop r) =>
      let s' : Fs := ⟨s.T, H.set n1 (some (.loop { r with state := .exhausted })), n, n1 :: (wr ++ s.wr), df1⟩
      (match r.state with
      | .busy => .bad "range: busy" []
      | _ => (match r.pend with | none => .code .normal s' | some j => rec (.code nt rd j) s'))
    | _ => .bad "range: the loop is gone" [])
  | .bad m tr => .bad m tr
  | _ => .bad "range: panic" []

def evCode (nt : Nat) (rd : Option Nat) (c : Code) (s : Fs) : Res :=
  match c with
  | .skip | .label _ => .code .normal s
  | .seq a b =>
    (match rec (.code nt rd a) s with
    | .code .normal s' => rec (.code nt rd b) s'
    | .code x s' => .code x s'
    | .bad m tr => .bad m tr
    | _ => .bad "seq" [])
  | .cond x a b => (match aev s.T x with | .bool t => bif okX g0 x then rec (.code nt rd (bif t then a else b)) s else .bad "cond" [] | _ => .bad "cond" [])
  | .block id b =>
    (match rec (.code nt rd b) s with
    | .code (.exit id') s' => bif id'.beq id then .code .normal s' else .code (.exit id') s'
    | .code x s' => .code x s'
    | .bad m tr => .bad m tr
    | _ => .bad "block" [])
  | .loop b => rec (.loop nt rd b) s
  | .scope b =>
    (match rec (.code nt rd b) s with
    | .code (.goto _) _ => .bad "goto" []
    | .code x s' => .code x s'
    | .bad m tr => .bad m tr
    | _ => .bad "scope" [])
  | .exit id => .code (.exit id) s
  | .ret => .code .ret s
  | .region _ ops draw =>
    bif draw then
      let pre := preAll ops.toList []
      bif regOk ops pre then evDraw P g0 rec nt rd ops pre (planOf ops pre) 0 [] s else .bad "region: temporaries" []
    else evOps P g0 rec nt rd ops (List.range ops.size) s
  | .rangeFunc g params assign body =>
    bif okX g0 g then
      match aev s.T g with
      | .func (.func f) first cap =>
        bif callable P f then
          match rd with
          | none => evRangeGo rec nt rd params assign body f first.toList cap.toList s s.n (s.H.set s.n (some .defs)) (s.n + 1) (.mark s.n :: s.df)
          | some l => (match s.H.get l with | some (.loop r) => evRangeGo rec nt rd params assign body f first.toList cap.toList s r.defs s.H s.n s.df | _ => .bad "range: no loop around" [])
        else .bad "range: no body" []
      | _ => .bad "range: of what?" []
    else .bad "operand" []
  | .goto _ => .bad "goto" []
  | .refuse _ => .bad "refused" []

def evResults (s : Fs) : List ResultVar → Option (List Value)
  | [] => some []
  | .tmp t :: l => (evResults s l).map (((s.T.get t).getD undef) :: ·)
  | .cell a t :: l => (match aLoad P t ((s.T.get a).getD undef) s.H.get with | .val v [] 0 => (evResults s l).map (v :: ·) | _ => none)

def tupleOf (vs : List Value) : Value := match vs with | [v] => v | l => .tuple l.toArray

/-- How a frame goes on its way out. -/
inductive OutR where
  | ok (u : Option (List (Value × Bool))) (H : Tr AObj) (n : Nat) (wr : List Nat)
  | bad (why : String) (tr : List Nat)

/-- On the way out: the marks are shut, the deferred calls run. -/
def evOut : List ADf → Option (List (Value × Bool)) → Tr AObj → Nat → List Nat → OutR
  | [], u, H, n, wr => .ok u H n wr
  | .mark d :: l, u, H, n, wr => (match H.get d with | some .defs => evOut l u (H.set d none) n (d :: wr) | _ => .bad "mark" [])
  | .call f cap args :: l, u, H, n, wr =>
    bif callable P f then
      match rec (.dcall f (args ++ cap) u) ⟨.e, H, n, [], []⟩ with
      | .ret _ H' n' wr' => evOut l none H' n' (wr' ++ wr)
      | .pan ch H' n' wr' => evOut l (some ch) H' n' (wr' ++ wr)
      | .bad m tr => .bad m tr
      | .code _ _ => .bad "deferred: code" []
    else .bad "deferred: no body" []

def modeOf : Ex → Option (Option (List (Value × Bool)))
  | .normal | .ret => some none
  | .pan ch => some (some ch)
  | _ => none

def evFn (f : FuncId) (args : List Value) (H : Tr AObj) (n : Nat) : Res :=
  match P.funcs[f]? with
  | none => .bad "function" []
  | some fn =>
    match fn.body with
    | none => .bad "function: no body" []
    | some c =>
      match rec (.code (args.length + (fn.ntmps - args.length)) none c) ⟨tmpsOf args 0 .e, H, n, [], []⟩ with
      | .code x s =>
        (match modeOf x with
        | none => .bad "function: way out" [f]
        | some u =>
          (match evOut P rec s.df u s.H s.n s.wr with
          | .ok none H' n' wr' =>
            (match evResults P { s with H := H' } fn.results.toList with
            | some vs => .ret (tupleOf vs) H' n' (own n n' wr')
            | none => .bad "results" [f])
          | .ok (some ch) H' n' wr' => .pan ch H' n' (own n n' wr')
          | .bad m tr => .bad m (f :: tr)))
      | .bad m tr => .bad m (f :: tr)
      | _ => .bad "function: way out" [f]

/-! ### A function that is called as a deferred one, and may recover -/
def recA : Option (List (Value × Bool)) → Option (Value × Option (List (Value × Bool)))
  | some ((v, false) :: l) => some (v, some ((v, true) :: l))
  | _ => none
def settleA : Option (List (Value × Bool)) → Option (List (Value × Bool))
  | some ((_, true) :: _) => none
  | u => u
def raisedA (u : Option (List (Value × Bool))) (ch : List (Value × Bool)) : List (Value × Bool) :=
  match u with | some old => ch ++ old | none => ch

inductive SR where
  | ok (x : Ex) (u : Option (List (Value × Bool))) (s : Fs)
  | bad (why : String) (tr : List Nat)

def isRecover (o : Oper) : Bool := match o.op with | .call c => (match c.callee with | .builtin .recover => true | _ => false) | _ => false

def evOpsS (nt : Nat) (ops : Array Oper) : List Nat → Option (List (Value × Bool)) → Fs → SR
  | [], u, s => .ok .normal u s
  | i :: l, u, s =>
    match ops[i]? with
    | none => evOpsS nt ops l u s
    | some o =>
      bif guardOk ops s.T o then
        bif isRecover o then
          match recA u with
          | some (v, u') => (match putT nt s.T o.dst v with | some T => evOpsS nt ops l u' { s with T } | none => .bad "slot" [])
          | none => (match putT nt s.T o.dst .nilIface with | some T => evOpsS nt ops l u { s with T } | none => .bad "slot" [])
        else bif okOps g0 o && !(isDefer o) && (isCall o).isNone then
          (match aop P o (aev s.T) s.H.get s.n with
          | .val v us k => bif keysOk s.n k us s.H.get then (match putT nt s.T o.dst v with | some T => evOpsS nt ops l u { s with T, H := applyUs s.H us, n := s.n + k, wr := us.map (·.1) ++ s.wr } | none => .bad "slot" []) else .bad "names" []
          | .pan v => .ok (.pan [(v, false)]) u s
          | .bad m => .bad m [])
        else .bad "recover: with what else?" []
      else match putT nt s.T o.dst undef with
        | some T => evOpsS nt ops l u { s with T }
        | none => .bad "slot" []

def leafS (nt : Nat) (c : Code) (u : Option (List (Value × Bool))) (s : Fs) : SR :=
  match rec (.code nt none c) s with
  | .code x s' => .ok x u s'
  | .bad m tr => .bad m tr
  | _ => .bad "deferred: code" []

def evS (nt : Nat) : Code → Option (List (Value × Bool)) → Fs → SR
  | .seq a b, u, s => (match evS nt a u s with | .ok .normal u' s' => evS nt b u' s' | r => r)
  | .region id ops d, u, s =>
    bif ops.toList.any isRecover && !d then evOpsS P g0 nt ops (List.range ops.size) u s
    else leafS rec nt (.region id ops d) u s
  | c, u, s => leafS rec nt c u s

def evDcall (f : FuncId) (args : List Value) (u : Option (List (Value × Bool))) (H : Tr AObj) (n : Nat) : Res :=
  match P.funcs[f]? with
  | none => .bad "function" []
  | some fn =>
    match fn.body with
    | none => .bad "function: no body" []
    | some c =>
      match evS P g0 rec (args.length + (fn.ntmps - args.length)) c u ⟨tmpsOf args 0 .e, H, n, [], []⟩ with
      | .bad m tr => .bad m (f :: tr)
      | .ok x u' s =>
        match s.df with
        | [] =>
          (match modeOf x with
          | none => .bad "deferred: way out" [f]
          | some none => (match evResults P s fn.results.toList with
            | some _ => (match settleA u' with | none => .ret undef s.H s.n (own n s.n s.wr) | some ch => .pan ch s.H s.n (own n s.n s.wr))
            | none => .bad "results" [f])
          | some (some ch) => .pan (raisedA u' ch) s.H s.n (own n s.n s.wr))
        | _ => .bad "deferred: defers" [f]

def evLoop (nt : Nat) (rd : Option Nat) (c : Code) (s : Fs) : Res :=
  match rec (.code nt rd c) s with
  | .code .normal s' => rec (.loop nt rd c) s'
  | .code x s' => .code x s'
  | .bad m tr => .bad m tr
  | _ => .bad "loop" []

def step (t : Task) (s : Fs) : Res :=
  match t with
  | .code nt rd c => evCode P g0 rec nt rd c s
  | .loop nt rd c => evLoop rec nt rd c s
  | .call f args => evFn P rec f args s.H s.n
  | .dcall f args u => evDcall P g0 rec f args u s.H s.n
end

/-- M, for so many steps. -/
noncomputable def ev (P : Program) (g0 : Nat) (f : Nat) : Task → Fs → Res :=
  Nat.rec (fun _ _ => .bad "fuel" []) (fun _ ih t s => step P g0 ih t s) f

theorem ev_zero (P : Program) (g0 : Nat) (t : Task) (s : Fs) : ev P g0 0 t s = .bad "fuel" [] := rfl
theorem ev_succ (P : Program) (g0 f : Nat) (t : Task) (s : Fs) : ev P g0 (f + 1) t s = step P g0 (ev P g0 f) t s := rfl

def retTrue (r : Res) : Bool := match r with | .ret (.bool true) _ _ [] => true | _ => false
def resWhy : Res → String
  | .bad m _ => m
  | .ret v _ _ wr => (match v with | .bool true => "true" | .bool false => "false" | _ => "another value") ++ (match wr with | [] => "" | _ => " writes")
  | .pan _ _ _ _ => "panic"
  | .code _ _ => "code"
end Go.Proofs.YtgfjmkjhjfmbeaaGreat
