/- An abstract machine for closed runs: control. -/
import Derived.Test.YtfchbkmegicfoaaGreatEx
set_option linter.unusedSimpArgs false
set_option linter.unusedVariables false
namespace Go.Proofs.YtfchbkmegicfoaaGreat.Ex
open Go

/-- A read that may be done later. -/
inductive RD where
  | load (t : TypeId) (b off : Nat)
  | look (t : TypeId) (m k : AV) (ok : Bool)
  | str (b off len : Nat)
  | mlen (b : Nat)

def rdA (T : TT) (h : AH) : RD → Option AV
  | .load t b off => loadA T h t b off
  | .look t m k ok => lookupA T h t m k ok
  | .str b off len => (bytesAt h b off len).map fun bs => .lit (.string ⟨bs.toArray⟩)
  | .mlen b => match (h.at b) with
    | some (.map es _) => some (.lit (.int .i64 es.length))
    | _ => none

def scalEq : Value → Value → Bool
  | .bool a, .bool b => a == b
  | .int k a, .int k' b => k == k' && a == b
  | .string a, .string b => a.data.toList == b.data.toList
  | .pointer none, .pointer none | .slice none 0 0, .slice none 0 0 | .map none, .map none | .nilFunc, .nilFunc | .nilIface, .nilIface => true
  | _, _ => false

def capEq : Cap → Cap → Bool
  | .kn a, .kn b => a == b
  | .un a, .un b => a == b
  | _, _ => false

def AV.same : Nat → AV → AV → Bool
  | _, .lit a, .lit b => scalEq a b
  | _, .ptr a i, .ptr b j => a == b && i == j
  | _, .sl a i n c, .sl b j m d => a == b && i == j && n == m && capEq c d
  | _, .mp a, .mp b => a == b
  | _, .ext a, .ext b => a == b
  | n + 1, .agg l, .agg m => l.length == m.length && (l.zip m).all fun (x, y) => AV.same n x y
  | n + 1, .tup l, .tup m => l.length == m.length && (l.zip m).all fun (x, y) => AV.same n x y
  | n + 1, .ifc t v, .ifc u w => t == u && AV.same n v w
  | _, _, _ => false

inductive AI where
  | code (c : Code)
  | blk (id : Nat)
  | lp (body : Code)
  | sc (body : Code)
  | reg (ops : Array Oper) (todo : List Nat)
  | regD (ops : Array Oper) (todo : List Nat) (reads : List (Nat × RD × AV))
  | endRF (l : Nat)
  | beginRound

inductive ADI where
  | call (f : FuncId) (args : List AV)
  | coll (b : Nat)

abbrev Chain := List (AV × Bool)

inductive Mode where
  | ret
  | pan (chain : Chain)

structure AFr where
  fn : FuncId
  tmps : TM
  todo : List AI
  defers : List ADI
  cm : Option Mode
  roundOf : Option Nat

inductive End where
  | ret (v : AV)
  | pan (chain : Chain)

inductive Task where
  | call (f : FuncId) (args : List AV) (cm : Option Mode)
  | body (fr : AFr)
  | unwind (fr : AFr) (m : Mode)
  | round (l : Nat) (args : List AV)

inductive Out where
  | ended (e : End) (cm : Option Mode)
  | left (jump : Option Code) (fr : AFr)
  | raised (chain : Chain) (fr : AFr)

def exitA (id : Nat) : List AI → Option (List AI)
  | .blk id' :: k => if id' = id then some k else exitA id k
  | _ :: k => exitA id k
  | [] => none

def gotoA (l : Nat) : List AI → Option (List AI)
  | .sc body :: k => match findLabel body l with
    | some rest => some (.code rest :: .sc body :: k)
    | none => gotoA l k
  | _ :: k => gotoA l k
  | [] => none

def settleA : Mode → Mode
  | .pan ((_, true) :: _) => .ret
  | m => m

def raisedA (m : Mode) (c : Chain) : Mode := match m with
  | .pan old => .pan (c ++ old)
  | .ret => .pan c

def recoverA : Option Mode → AV × Option Mode
  | some (.pan ((v, false) :: r)) => (v, some (.pan ((v, true) :: r)))
  | m => (.lit .nilIface, m)

def setTmp (tmps : TM) (d : Option Tmp) (v : AV) : TM := match d with
  | some t => tmps.set t v
  | none => tmps

/-- Is an operation wanted? -/
def wantedA (ops : Array Oper) (tmps : TM) (o : Oper) : Option Bool := match o.guard with
  | none => some true
  | some (j, want) => match (ops[j]?).bind (·.dst) with
    | some d => match tmps.at d with
      | some (.lit (.bool b)) => some (b == want)
      | some (.tup []) => some false
      | _ => none
    | none => none

def resultsA (T : TT) (h : AH) (tmps : TM) : List ResultVar → Option (List AV)
  | [] => some []
  | .tmp t :: r => (resultsA T h tmps r).map ((tmps.at t).getD aundef :: ·)
  | .cell a t :: r => match (tmps.at a).getD aundef, resultsA T h tmps r with
    | .ptr b off, some l => (loadA T h t b off).map (· :: l)
    | _, _ => none

def oneOf : List AV → AV
  | [v] => v
  | l => .tup l

def setParams (tmps : TM) : List Tmp → List AV → TM
  | t :: ts, v :: vs => setParams (tmps.set t v) ts vs
  | _, _ => tmps

/-- Drawn regions: the transitive ground of each operation, as a list of flags. -/
inductive Kind where
  | still   -- depends on no memory, touches none
  | alloc
  | reads
  | acts

def kindOf (T : TT) (o : Oper) : Kind := match o.op with
  | .move _ | .assign _ | .pick .. | .build .. | .nilCheck _ | .binOp .. | .unOp .. | .makeInterface .. | .makeFunc .. | .slice .. | .fieldAddr .. | .field .. | .indexAddr .. | .index .. | .typeAssert .. | .extract .. => .still
  | .alloc _ | .box .. | .buildSlice .. | .makeSlice .. | .makeMap .. => .alloc
  | .load .. | .lookup .. => .reads
  | .convert src dst _ => match und T src, und T dst with
    | some (.slice _), some .string => .reads
    | some .string, some (.slice _) | some (.slice _), some (.slice _) => .acts
    | _, _ => .still
  | .call c => match c.callee with
    | .builtin .len => match (c.argTypes[0]?).bind (und T) with
      | some (.map _ _) => .reads
      | _ => .still
    | .builtin .min | .builtin .max => .still
    | _ => .acts
  | _ => .acts

/-- For which operations does one wait, by however many steps: bits. M: the rows (of n bits each) of the operations ahead of it. -/
def rowOf (n M : Nat) : List Edge → Nat → Nat
  | [], acc => acc
  | e :: r, acc => rowOf n M r (bif Region.binds .any e then acc ||| (1 <<< e.on) ||| ((M >>> (n * e.on)) &&& (2 ^ n - 1)) else acc)

def matOf (n : Nat) : List Oper → Nat → Nat → Nat
  | [], _, M => M
  | o :: r, i, M => matOf n r (i + 1) (M ||| (rowOf n M o.after.toList 0 <<< (n * i)))

/-- The region's order: one number. -/
def mat (ops : Array Oper) : Nat := matOf ops.size ops.toList 0 0

def waits (n M i k : Nat) : Bool := Nat.beq ((M >>> (n * i + k)) % 2) 1

def isAct (T : TT) (ops : Array Oper) (i : Nat) : Bool := match ops[i]? with
  | some o => match kindOf T o with
    | .acts => true
    | _ => false
  | none => false

def actsOf (T : TT) : List Oper → Nat → List Nat
  | [], _ => []
  | o :: r, i => match kindOf T o with
    | .acts => i :: actsOf T r (i + 1)
    | _ => actsOf T r (i + 1)

def restOf (T : TT) : List Oper → Nat → List Nat
  | [], _ => []
  | o :: r, i => match kindOf T o with
    | .acts => restOf T r (i + 1)
    | _ => i :: restOf T r (i + 1)

def stageOf (n M : Nat) (i : Nat) : List Nat → Nat
  | [] => 0
  | e :: r => bif waits n M i e then stageOf n M i r + 1 else stageOf n M i r

def namesOf (ops : Array Oper) (o : Oper) : List Tmp := o.dst.toList ++ (o.op.operands.toList.filterMap fun | .tmp t => some t | _ => none) ++ (match o.guard with
  | some (j, _) => ((ops[j]?).bind (·.dst)).toList
  | none => [])

/-- Whoever writes a temporary that operation i names stands before it or behind it. -/
def tmpOk (n M i : Nat) (ts : List Tmp) : List Oper → Nat → Bool
  | [], _ => true
  | o :: r, j => (match o.dst with
    | some d => !ts.contains d || Nat.beq i j || waits n M i j || waits n M j i
    | none => true) && tmpOk n M i ts r (j + 1)

def tmpsOk (n M : Nat) (ops : Array Oper) : List Oper → Nat → Bool
  | [], _ => true
  | o :: r, i => tmpOk n M i (namesOf ops o) ops.toList 0 && tmpsOk n M ops r (i + 1)

def atStage (n M : Nat) (acts : List Nat) (j : Nat) : List Nat → List Nat
  | [] => []
  | i :: r => bif Nat.beq (stageOf n M i acts) j then i :: atStage n M acts j r else atStage n M acts j r

def canon (n M : Nat) (acts rest : List Nat) : Nat → List Nat → List Nat
  | j, [] => atStage n M acts j rest
  | j, e :: r => atStage n M acts j rest ++ e :: canon n M acts rest (j + 1) r

def orderD (T : TT) (ops : Array Oper) : List Nat := canon ops.size (mat ops) (actsOf T ops.toList 0) (restOf T ops.toList 0) 0 (actsOf T ops.toList 0)

/-- What an operation waits for at once, as a mask. -/
def predMask : List Edge → Nat → Nat
  | [], acc => acc
  | e :: r, acc => predMask r (bif Region.binds .any e then acc ||| (1 <<< e.on) else acc)

/-- Is it an order in which all operations may be done, each once, and does each wait for the act ahead of it? -/
def linOk (T : TT) (ops : Array Oper) (n M : Nat) : List Nat → Nat → Option Nat → Bool
  | [], done, _ => Nat.beq done (2 ^ n - 1)
  | i :: r, done, last => match ops[i]? with
    | some o => Nat.beq (predMask o.after.toList 0 &&& done) (predMask o.after.toList 0) && Nat.beq ((done >>> i) % 2) 0 && (match last with | some a => waits n M i a | none => true) &&
        linOk T ops n M r (done ||| (1 <<< i)) (bif isAct T ops i then some i else last)
    | none => false

def okD (T : TT) (ops : Array Oper) : Bool := linOk T ops ops.size (mat ops) (orderD T ops) 0 none && tmpsOk ops.size (mat ops) ops ops.toList 0

/-- The read that an operation is. -/
def rdOf (o : Oper) (tmps : TM) : Option RD := match o.op with
  | .load t a => match evalA tmps a with
    | some (.ptr b off) => some (.load t b off)
    | _ => none
  | .lookup t m k ok => match evalA tmps m, evalA tmps k with
    | some m, some k => some (.look t m k ok)
    | _, _ => none
  | .convert _ _ x => match evalA tmps x with
    | some (.sl b off len _) => some (.str b off len)
    | _ => none
  | .call c => match evals tmps c.args.toList with
    | some [.mp b] => some (.mlen b)
    | _ => none
  | _ => none

def hold (T : TT) (h : AH) (reads : List (Nat × RD × AV)) : Bool := reads.all fun (_, r, v) => match rdA T h r with
  | some u => AV.same 8 u v
  | none => false

abbrev Sums := FuncId → Option (List AV → AH → Option (AV × AH))

abbrev Rec := Task → AH → Option (Out × AH)

section
variable (P : Program) (T : TT) (S : Sums) (rec : Rec)

def goOn (fr : AFr) (k : List AI) (h : AH) : Option (Out × AH) := rec (.body { fr with todo := k }) h

def xCall1 (cm : Option Mode) : Option (Out × AH) → Option (Out × AH)
  | some (.left none fr, h) | some (.left (some .ret) fr, h) => rec (.unwind fr .ret) h
  | some (.raised c fr, h) => rec (.unwind fr (.pan c)) h
  | _ => none

def xCall (f : FuncId) (args : List AV) (cm : Option Mode) (h : AH) : Option (Out × AH) := match P.funcs[f]? with
  | some fn => match fn.body with
    | some c => match S f, cm with
      | some g, none => (g args h).map fun (v, h') => (.ended (.ret v) none, h')
      | some _, some _ => none
      | none, _ => xCall1 rec cm (rec (.body { fn := f, tmps := TM.ofL args (fn.ntmps - args.length), todo := [.code c], defers := [], cm, roundOf := none }) h)
    | none => none
  | none => none

def xUnwind1 (fr : AFr) (ds : List ADI) : Option (Out × AH) → Option (Out × AH)
  | some (.ended (.ret _) (some m), h) => rec (.unwind { fr with defers := ds } (settleA m)) h
  | some (.ended (.pan c) (some m), h) => rec (.unwind { fr with defers := ds } (raisedA m c)) h
  | _ => none

def xResults (fr : AFr) (h : AH) : Option (Out × AH) := match P.funcs[fr.fn]? with
  | some fn => (resultsA T h fr.tmps fn.results.toList).map fun l => (.ended (.ret (oneOf l)) fr.cm, h)
  | none => none

def xUnwind (fr : AFr) (m : Mode) (h : AH) : Option (Out × AH) := match fr.defers with
  | [] => match m with
    | .ret => xResults P T fr h
    | .pan c => match P.funcs[fr.fn]? with
      | some _ => some (.ended (.pan c) fr.cm, h)
      | none => none
  | .coll b :: ds => match (h.at b) with
    | some .defd => rec (.unwind { fr with defers := ds } m) (h.put b .gone)
    | _ => none
  | .call f args :: ds => xUnwind1 rec fr ds (rec (.call f args (some m)) h)

def xRound1 (l : Nat) : Option (Out × AH) → Option (Out × AH)
  | some (.left jump _, h) => match (h.at l) with
    | some (.loop lo) => some (.ended (.ret (.lit (.bool jump.isNone))) none, h.put l (.loop { lo with state := if jump.isNone then .ready else .done, pending := jump }))
    | _ => none
  | some (.raised c fr, h) => if fr.defers.isEmpty && (P.funcs[fr.fn]?).isSome then some (.ended (.pan c) none, h) else none
  | _ => none

def xRound (l : Nat) (args : List AV) (h : AH) : Option (Out × AH) := match (h.at l) with
  | some (.loop lo) => if args.length = lo.params.length then
      xRound1 P l (rec (.body { fn := lo.fn, tmps := setParams lo.tmps lo.params args, todo := [.code lo.assign, .beginRound, .code lo.body], defers := [], cm := none, roundOf := some l }) h)
    else none
  | _ => none

def xRange1 (fr : AFr) (k : List AI) (d l : Nat) : Option (Out × AH) → Option (Out × AH)
  | some (.ended (.ret _) _, h) => rec (.body { fr with todo := .endRF l :: k, defers := .coll d :: fr.defers }) h
  | some (.ended (.pan c) _, h) => some (.raised c { fr with defers := .coll d :: fr.defers }, h)
  | _ => none

def xRange (fr : AFr) (k : List AI) (h : AH) (f : Operand) (params : Array Tmp) (assign body : Code) : Option (Out × AH) := match fr.roundOf, evalA fr.tmps f with
  | none, some fv => match callA P fv [.fn (.yield (h.n + 1)) [] []] with
    | some (.enter g args) => xRange1 rec fr k h.n (h.n + 1) (rec (.call g args none) ((h.push .defd).push (.loop { state := .ready, pending := none, fn := fr.fn, tmps := fr.tmps, params := params.toList, assign, body })))
    | _ => none
  | _, _ => none

def xBegin (fr : AFr) (k : List AI) (h : AH) : Option (Out × AH) := match fr.roundOf with
  | some l => match (h.at l) with
    | some (.loop lo) => match lo.state with
      | .ready => goOn rec fr k (h.put l (.loop { lo with state := .busy }))
      | _ => none
    | _ => none
  | none => none

def xEnd (fr : AFr) (l : Nat) (k : List AI) (h : AH) : Option (Out × AH) := match (h.at l) with
  | some (.loop lo) => match lo.state with
    | .busy => none
    | _ => goOn rec fr ((lo.pending.map AI.code).toList ++ k) (h.put l (.loop { lo with state := .exhausted }))
  | _ => none

/-- An operation is done: its value is laid, and the frame goes on with the item 'it'. -/
def fin (fr : AFr) (o : Oper) (it : AI) (k : List AI) (v : AV) (h : AH) : Option (Out × AH) :=
  rec (.body { fr with tmps := setTmp fr.tmps o.dst v, todo := it :: k }) h

def xCalled (fr : AFr) (o : Oper) (it : AI) (k : List AI) : Option (Out × AH) → Option (Out × AH)
  | some (.ended (.ret v) _, h) => fin rec fr o it k v h
  | some (.ended (.pan c) _, h) => some (.raised c fr, h)
  | _ => none

def xOp (fr : AFr) (o : Oper) (it : AI) (k : List AI) : AR → Option (Out × AH)
  | some (.val v, h) => fin rec fr o it k v h
  | some (.enter f args, h) => xCalled rec fr o it k (rec (.call f args none) h)
  | some (.round l args, h) => xCalled rec fr o it k (rec (.round l args) h)
  | some (.defer f args, h) => if fr.roundOf.isSome then none else fin rec { fr with defers := .call f args :: fr.defers } o it k aundef h
  | some (.recover, h) => if fr.roundOf.isSome then none else fin rec { fr with cm := (recoverA fr.cm).2 } o it k (recoverA fr.cm).1 h
  | some (.pan v, h) => some (.raised [(v, false)] fr, h)
  | none => none

def xReg (fr : AFr) (ops : Array Oper) (i : Nat) (r : List Nat) (k : List AI) (h : AH) : Option (Out × AH) := match ops[i]? with
  | some o => match wantedA ops fr.tmps o with
    | some true => xOp rec fr o (.reg ops r) k (aop P T o fr.tmps h)
    | some false => fin rec fr o (.reg ops r) k aundef h
    | none => none
  | none => none

def xCalledD (fr : AFr) (o : Oper) (it : AI) (k : List AI) : Option (Out × AH) → Option (Out × AH)
  | some (.ended (.ret v) _, h) => fin rec fr o it k v h
  | _ => none

def xOpD (fr : AFr) (ops : Array Oper) (i : Nat) (o : Oper) (r : List Nat) (reads : List (Nat × RD × AV)) (k : List AI) (x : AR) : Option (Out × AH) := match kindOf T o with
  | .acts => match x with
    | some (.val v, h) => fin rec fr o (.regD ops r reads) k v h
    | some (.enter f args, h) => xCalledD rec fr o (.regD ops r reads) k (rec (.call f args none) h)
    | some (.round l args, h) => xCalledD rec fr o (.regD ops r reads) k (rec (.round l args) h)
    | _ => none
  | .reads => match x with
    | some (.val v, h) => match rdOf o fr.tmps with
      | some rd => fin rec fr o (.regD ops r ((i, rd, v) :: reads)) k v h
      | none => bif (litOp P o fr.tmps).isSome then fin rec fr o (.regD ops r reads) k v h else none
    | _ => none
  | _ => match x with
    | some (.val v, h) => fin rec fr o (.regD ops r reads) k v h
    | _ => none

def xRegD1 (fr : AFr) (ops : Array Oper) (i : Nat) (o : Oper) (r : List Nat) (reads : List (Nat × RD × AV)) (k : List AI) (h : AH) : Option (Out × AH) :=
  match wantedA ops fr.tmps o with
  | some true => xOpD P T rec fr ops i o r reads k (aop P T o fr.tmps h)
  | some false => fin rec fr o (.regD ops r reads) k aundef h
  | none => none

def xRegD (fr : AFr) (ops : Array Oper) (i : Nat) (r : List Nat) (reads : List (Nat × RD × AV)) (k : List AI) (h : AH) : Option (Out × AH) := match ops[i]? with
  | some o => if isAct T ops i then (if hold T h reads then xRegD1 P T rec fr ops i o r (reads.filter fun (j, _, _) => !waits ops.size (mat ops) i j) k h else none) else xRegD1 P T rec fr ops i o r reads k h
  | none => none

def xCond (fr : AFr) (c : Operand) (t e : Code) (k : List AI) (h : AH) : Option (Out × AH) := match evalA fr.tmps c with
  | some (.lit (.bool b)) => goOn rec fr (.code (bif b then t else e) :: k) h
  | _ => none

def xExit (fr : AFr) (id : Nat) (k : List AI) (h : AH) : Option (Out × AH) := match exitA id k with
  | some k' => goOn rec fr k' h
  | none => some (.left (some (.exit id)) fr, h)

def xGoto (fr : AFr) (l : Nat) (k : List AI) (h : AH) : Option (Out × AH) := match gotoA l k with
  | some k' => goOn rec fr k' h
  | none => none

def xRegion (fr : AFr) (ops : Array Oper) (draw : Bool) (k : List AI) (h : AH) : Option (Out × AH) :=
  bif draw then (bif okD T ops then goOn rec fr (.regD ops (orderD T ops) [] :: k) h else none) else goOn rec fr (.reg ops (List.range ops.size) :: k) h

def xCode (fr : AFr) (k : List AI) (h : AH) : Code → Option (Out × AH)
  | .ret => some (.left (some .ret) fr, h)
  | .skip | .label _ => goOn rec fr k h
  | .seq a b => goOn rec fr (.code a :: .code b :: k) h
  | .cond c t e => xCond rec fr c t e k h
  | .block id c => goOn rec fr (.code c :: .blk id :: k) h
  | .loop c => goOn rec fr (.code c :: .lp c :: k) h
  | .scope c => goOn rec fr (.code c :: .sc c :: k) h
  | .exit id => xExit rec fr id k h
  | .rangeFunc f params assign body => xRange P rec fr k h f params assign body
  | .region _ ops draw => xRegion T rec fr ops draw k h
  | .goto l => xGoto rec fr l k h
  | .refuse _ => none

def xItem (fr : AFr) (k : List AI) (h : AH) : AI → Option (Out × AH)
  | .code c => xCode P T rec fr k h c
  | .blk _ | .sc _ => goOn rec fr k h
  | .lp c => goOn rec fr (.code c :: .lp c :: k) h
  | .reg _ [] => goOn rec fr k h
  | .reg ops (i :: r) => xReg P T rec fr ops i r k h
  | .regD _ [] reads => if hold T h reads then goOn rec fr k h else none
  | .regD ops (i :: r) reads => xRegD P T rec fr ops i r reads k h
  | .beginRound => xBegin rec fr k h
  | .endRF l => xEnd rec fr l k h

def xBody (fr : AFr) (h : AH) : Option (Out × AH) := match fr.todo with
  | [] => some (.left none fr, h)
  | it :: k => xItem P T rec fr k h it

def xStep : Rec
  | .call f args cm, h => xCall P S rec f args cm h
  | .body fr, h => xBody P T rec fr h
  | .unwind fr m, h => xUnwind P T rec fr m h
  | .round l args, h => xRound P rec l args h

end

def ex (P : Program) (T : TT) (S : Sums) (n : Nat) : Rec := Nat.rec (motive := fun _ => Rec) (fun _ _ => none) (fun _ r => xStep P T S r) n

end Go.Proofs.YtfchbkmegicfoaaGreat.Ex
