/- Eng, joined. -/
import Derived.Deep.LoopGhost
import Derived.BigCall
import Derived.Laws.NewFold
import Derived.Test.YtoilipfgimcoiaaGreatOz1
set_option linter.unusedVariables false
set_option linter.unusedSimpArgs false
namespace Go.Proofs.YtoilipfgimcoiaaGreat
open Go Go.RowKit
def nthE {α : Type} : List α → Nat → Option α
 | [], _ => none
 | x :: _, 0 => some x
 | _ :: r, i + 1 => nthE r i
theorem nth_eq {α : Type} : ∀ (l : List α) (i : Nat), nthE l i = l[i]?
 | [], i => by simp [nthE]
 | x :: _, 0 => rfl
 | _ :: r, i + 1 => by rw [nthE, nth_eq r i]; rfl
def aget {α : Type} : List (Nat × α) → Nat → Option α
 | [], _ => none
 | (j, v) :: r, i => match Nat.beq j i with
   | true => some v
   | false => aget r i
theorem aget_mem {α : Type} : ∀ {l : List (Nat × α)} {i : Nat} {v : α}, aget l i = some v → (i, v) ∈ l
 | (j, u) :: r, i, v, h => by
   unfold aget at h
   split at h
   · rename_i e; have := Nat.eq_of_beq_eq_true e; injection h with h; subst this; subst h; exact List.mem_cons_self ..
   · exact List.mem_cons_of_mem _ (aget_mem h)
abbrev Fr := List (Nat × Value)
def fev (fr : Fr) : Operand → Option Value
 | .tmp t => aget fr t
 | .const v => some v
 | .global g => some (.pointer (some ⟨g, 0, none⟩))
 | .func f => some (.func (.func f) #[] #[])
def fevs (fr : Fr) : List Operand → Option (List Value)
 | [] => some []
 | x :: r => match fev fr x with
   | some v => match fevs fr r with
     | some vs => some (v :: vs)
     | none => none
   | none => none
def fevp (fr : Fr) : List (Nat × Operand) → Option (List (Nat × Value))
 | [] => some []
 | (i, x) :: r => match fev fr x with
   | some v => match fevp fr r with
     | some vs => some ((i, v) :: vs)
     | none => none
   | none => none
def addO (o n : Nat) : Nat := cond (Nat.beq n 0) o (o + n)
theorem addO_eq (o n : Nat) : addO o n = o + n := by
 unfold addO
 cases h : Nat.beq n 0 with
 | true => have := Nat.eq_of_beq_eq_true h; subst this; rfl
 | false => rfl
def mulO (j n : Nat) : Nat := cond (Nat.beq n 1) j (j * n)
theorem mulO_eq (j n : Nat) : mulO j n = j * n := by
 unfold mulO
 cases h : Nat.beq n 1 with
 | true => have := Nat.eq_of_beq_eq_true h; subst this; simp
 | false => rfl
structure Tab where
 fd : List (Nat × List (Nat × Nat × Bool))
 es : List (Nat × Nat)
 ar : List (Nat × Nat × Nat)
 ik : List (Nat × IntKind)
 kd : List (Nat × Nat)
 eg : List Nat
 bad : List Nat
def sizeB (P : Program) (t : TypeId) : Option Nat := (P.info? t).map (·.size)
def aggB (P : Program) (t : TypeId) : Option Bool := (P.underlying t).map fun | .struct _ | .array _ _ => true | _ => false
def chkFs (P : Program) : List Field → List (Nat × Nat × Bool) → Bool
 | f :: fs, p :: l => (f.offset == p.1) && (sizeB P f.type == some p.2.1) && (aggB P f.type == some p.2.2) && chkFs P fs l
 | _, [] => true
 | [], _ :: _ => false
def chkFd (P : Program) (p : Nat × List (Nat × Nat × Bool)) : Bool := match P.underlying p.1 with
 | some (.struct fs) => chkFs P fs.toList p.2
 | _ => false
def chkEs (P : Program) (p : Nat × Nat) : Bool := match P.underlying p.1 with
 | some (.slice e) => sizeB P e == some p.2
 | _ => false
def chkAr (P : Program) (p : Nat × Nat × Nat) : Bool := match P.underlying p.1 with
 | some (.array n e) => (n == p.2.1) && (sizeB P e == some p.2.2)
 | _ => false
def chkIk (P : Program) (p : Nat × IntKind) : Bool := match P.underlying p.1 with
 | some (.int k) => k == p.2
 | _ => false
def chkKd (P : Program) (p : Nat × Nat) : Bool := match P.underlying p.1 with
 | some .bool => p.2 == 1
 | some (.pointer _) => p.2 == 2
 | some (.slice _) => p.2 == 3
 | _ => false
def chkFn (P : Program) (bad : List Nat) (f : Nat) : Bool := bad.contains f || match P.funcs[f]? with
 | some fn => !(fn.name == "runtime.NumGoroutine") && fn.body.isSome
 | none => false
def tabB (P : Program) (T : Tab) : Bool :=
 P.follows .mixedOrders && T.fd.all (chkFd P) && T.es.all (chkEs P) && T.ar.all (chkAr P) && T.ik.all (chkIk P) && T.kd.all (chkKd P) && T.eg.all (fun t => !P.eqGuardType P.depth t) && (List.range P.funcs.size).all (chkFn P T.bad)
structure Ld (P : Program) (ty : TypeId) (b off : Nat) (S : World → Prop) (v : Value) : Prop where
 out : ∀ W, S W → (loadVar ty ⟨b, off, none⟩).run P W = .ok v W
theorem Ld.at {P : Program} {ty : TypeId} {b off : Nat} {S : World → Prop} {v : Value} {w : World} (h : Ld P ty b off S v) (hS : S w) : Ld P ty b off (Eq w) v := ⟨fun _ e => e ▸ h.out w hS⟩
theorem Ld.mono {P : Program} {ty : TypeId} {b off : Nat} {S S' : World → Prop} {v : Value} (h : Ld P ty b off S v) (hS : ∀ W, S' W → S W) : Ld P ty b off S' v := ⟨fun W h' => h.out W (hS W h')⟩
theorem Ld.of {P : Program} {ty : TypeId} {b off : Nat} {v : Value} {w : World} (h : (loadVar ty ⟨b, off, none⟩).run P w = .ok v w) : Ld P ty b off (Eq w) v := ⟨fun _ e => e ▸ h⟩
inductive VLoad (P : Program) (ty : TypeId) (b off : Nat) (S : World → Prop) (K : Value → Prop) : Prop
 | mk (v : Value) (h : Ld P ty b off S v) (hk : K v)
inductive VIn (k : IntKind) (n : Int) (K : Value → Prop) : Prop
 | mk (h : k.wrap n = n) (hk : K (.int k n))
 | wr (hk : K (.int k (k.wrap n)))
inductive VCmp (p : Prop) (K : Bool → Prop) : Prop
 | tt (h : p) (hk : K true)
 | ff (h : ¬ p) (hk : K false)
inductive VIdx (i : Int) (n : Nat) (K : Nat → Prop) : Prop
 | mk (j : Nat) (h : i = (j : Int)) (hj : j < n) (hk : K j)
inductive VBuild (P : Program) (t : TypeId) (l : List (Nat × Value)) (K : Value → Prop) : Prop
 | mk (v : Value) (h : ∀ W, (Instr.build t l.toArray).run P W = .ok v W) (hk : K v)
inductive VQ (P : Program) (o : Oper) (fr : Fr) (S : World → Prop) (K : Value → Prop) : Prop
 | mk (v : Value) (h : ∀ a : Act, (∀ x u, fev fr x = some u → a.eval x = u) → ∀ W, S W → (execOp a.eval o).run P W = .ok (.value v) W) (hk : K v)
structure Bn (P : Program) (op : BinOp) (t : TypeId) (x y : Value) (S : World → Prop) (v : Value) : Prop where
 out : ∀ W, S W → (binOp op t x y).run P W = .ok v W
structure Cv (P : Program) (s d : TypeId) (x : Value) (S : World → Prop) (v : Value) : Prop where
 out : ∀ W, S W → (convert s d x).run P W = .ok v W
theorem Bn.of {P : Program} {op : BinOp} {t : TypeId} {x y v : Value} {S : World → Prop} (h : ∀ W, (binOp op t x y).run P W = .ok v W) : Bn P op t x y S v := ⟨fun W _ => h W⟩
inductive VBin (P : Program) (op : BinOp) (t : TypeId) (x y : Value) (S : World → Prop) (K : Value → Prop) : Prop
 | mk (v : Value) (h : Bn P op t x y S v) (hk : K v)
inductive VConv (P : Program) (s d : TypeId) (x : Value) (S : World → Prop) (K : Value → Prop) : Prop
 | mk (v : Value) (h : Cv P s d x S v) (hk : K v)
inductive VStore (P : Program) (ty : TypeId) (b off : Nat) (v : Value) (w : World) (K : World → Prop) : Prop
 | mk (w' : World) (h : (storeVar ty ⟨b, off, none⟩ v).run P w = .ok () w') (hk : K w')
inductive VNew (w : World) (cells : Array Value) (t : TypeId) (K : Nat → World → Prop) : Prop
 | mk (h : ∀ w', Hid (w' = w.alloc (.cells cells t)) → K w.heap.size w')
inductive VZero (P : Program) (t : TypeId) (K : Value → Prop) : Prop
 | mk (v : Value) (h : ∀ W, (zeroValue t).run P W = .ok v W) (hk : K v)
inductive VCall (P : Program) (f : FuncId) (args : Array Value) (w : World) (K : Value → World → Prop) : Prop
 | mk (R : Ending → World → Prop) (h : Calls P f args w R) (hk : ∀ e w', R e w' → ∃ v, e = .returned v ∧ K v w')
inductive VSl (A : Option Addr) (n c es : Nat) (lo hi : Int) (K : Value → Prop) : Prop
 | mk (l h : Nat) (hl : lo = (l : Int)) (hh : hi = (h : Int)) (h1 : l ≤ h) (h2 : h ≤ c) (hk : K (.slice (if c = l then A else A.map (·.add (l * es))) (h - l) (c - l)))
inductive VApp (P : Program) (ats : Array TypeId) (ty : TypeId) (vs : List Value) (w : World) (K : Value → World → Prop) : Prop
 | mk (v : Value) (w' : World) (h : (Builtin.append_ ats ty vs.toArray).run P w = .ok v w') (hk : K v w')
inductive VBs (P : Program) (t : TypeId) (n : Nat) (l : List (Nat × Value)) (w : World) (K : Value → World → Prop) : Prop
 | mk (v : Value) (w' : World) (h : (Instr.buildSlice t n l.toArray).run P w = .ok v w') (hk : K v w')
inductive VW (P : Program) (o : Oper) (fr : Fr) (w : World) (K : Value → World → Prop) : Prop
 | mk (h : ∀ (a : Act), (∀ x u, fev fr x = some u → a.eval x = u) → ∀ (Q : Exit → Act → World → Prop) (next : Act → World → Prop), (∀ v w', K v w' → next (a.put o.dst v) w') → o.wp P a w next Q)
inductive VS (i z : Nat) (S : World → Prop) (w : World) (p : Prop) : Prop
 | mk (h : S w) (hk : p)
 | last (h : i = z) (hk : p)
inductive VDone (p : Prop) : Prop
 | mk (h : p)
def withV (o : Option Value) (K : Value → Prop) : Prop := match o with
 | some v => K v
 | none => False
def cmpV (op : BinOp) (a b : Int) (K : Value → Prop) : Prop := match op with
 | .eql => VCmp (a = b) fun t => K (.bool t)
 | .neq => VCmp (a = b) fun t => K (.bool (!t))
 | .lss => VCmp (a < b) fun t => K (.bool t)
 | .leq => VCmp (a ≤ b) fun t => K (.bool t)
 | .gtr => VCmp (b < a) fun t => K (.bool t)
 | .geq => VCmp (b ≤ a) fun t => K (.bool t)
 | _ => False
def binV (T : Tab) (P : Program) (S : World → Prop) (o : Oper) (fr : Fr) (op : BinOp) (t : TypeId) (x y : Operand) (K : Value → Prop) : Prop :=
 match fev fr x, fev fr y with
 | some (.int k a), some (.int k' b) => match op with
   | .add => match k == k' with
     | true => VIn k (a + b) K
     | false => False
   | .sub => match k == k' with
     | true => VIn k (a - b) K
     | false => False
   | .mul => match k == k' with
     | true => VIn k (a * b) K
     | false => False
   | .eql | .neq | .lss | .leq | .gtr | .geq => match k == k' with
     | true => cmpV op a b K
     | false => False
   | _ => VQ P o fr S K
 | some (.agg a), some (.agg b) => match T.eg.contains t with
   | true => VBin P op t (.agg a) (.agg b) S K
   | false => VQ P o fr S K
 | some (.string a), some (.string b) => match op with
   | .eql => VCmp (a.toList = b.toList) fun t => K (.bool t)
   | .neq => VCmp (a.toList = b.toList) fun t => K (.bool (!t))
   | _ => VQ P o fr S K
 | some (.bool a), some (.bool b) => match aget T.kd t with
   | some 1 => match op with
     | .eql => K (.bool (a == b))
     | .neq => K (.bool (!(a == b)))
     | _ => VQ P o fr S K
   | _ => VQ P o fr S K
 | some (.pointer p), some (.pointer none) => match aget T.kd t with
   | some 2 => match op with
     | .eql => K (.bool p.isNone)
     | .neq => K (.bool (!p.isNone))
     | _ => VQ P o fr S K
   | _ => VQ P o fr S K
 | some (.slice p _ _), some (.slice none _ _) => match aget T.kd t with
   | some 3 => match op with
     | .eql => K (.bool p.isNone)
     | .neq => K (.bool (!p.isNone))
     | _ => VQ P o fr S K
   | _ => VQ P o fr S K
 | _, _ => VQ P o fr S K
def fieldV (cs : Array Value) (p : Nat × Nat × Bool) (K : Value → Prop) : Prop := match p with
 | (d, sz, true) => K (.agg ((cs.toList.drop d).take sz).toArray)
 | (d, _, false) => withV (nthE cs.toList d) K
def qv (T : Tab) (P : Program) (S : World → Prop) (o : Oper) (fr : Fr) (K : Value → Prop) : Prop := match o.op with
 | .move x | .assign x => withV (fev fr x) K
 | .pick c a b => match fev fr c with
   | some (.bool t) => match t with
     | true => withV (fev fr a) K
     | false => withV (fev fr b) K
   | _ => False
 | .nilCheck x => match fev fr x with
   | some (.pointer (some p)) => K (.pointer (some p))
   | _ => VQ P o fr S K
 | .fieldAddr s x f => match fev fr x with
   | some (.pointer (some ⟨b, off, none⟩)) => match (aget T.fd s).bind (nthE · f) with
     | some (d, sz, _) => match Nat.beq sz 0 with
       | true => False
       | false => K (.pointer (some ⟨b, addO off d, none⟩))
     | none => False
   | _ => False
 | .indexAddr t x ix => match fev fr x, fev fr ix with
   | some (.slice (some ⟨b, off, none⟩) n _), some (.int _ i) => match aget T.es t with
     | some es => VIdx i n fun j => K (.pointer (some ⟨b, off + mulO j es, none⟩))
     | none => False
   | some (.pointer (some ⟨b, off, none⟩)), some (.int _ i) => match aget T.ar t with
     | some (n, es) => VIdx i n fun j => K (.pointer (some ⟨b, off + mulO j es, none⟩))
     | none => False
   | _, _ => False
 | .load ty x => match fev fr x with
   | some (.pointer (some ⟨b, off, none⟩)) => VLoad P ty b off S K
   | _ => False
 | .binOp op t x y _ => binV T P S o fr op t x y K
 | .unOp op _ x => match op, fev fr x with
   | .not, some (.bool t) => K (.bool (!t))
   | .neg, some (.int k n) => VIn k (0 - n) K
   | _, _ => VQ P o fr S K
 | .extract t i => match fev fr t with
   | some (.tuple vs) => withV (nthE vs.toList i) K
   | _ => False
 | .field t x f => match fev fr x with
   | some (.agg cs) => match (aget T.fd t).bind (nthE · f) with
     | some p => fieldV cs p K
     | none => False
   | _ => False
 | .build t ps => match fevp fr ps.toList with
   | some l => VBuild P t l K
   | none => False
 | .convert s d x => match fev fr x, aget T.ik s, aget T.ik d with
   | some (.int _ n), some _, some k => VIn k n K
   | some v, _, _ => VConv P s d v S K
   | _, _, _ => VQ P o fr S K
 | .makeFunc fn xs ys => match fevs fr xs.toList, fevs fr ys.toList with
   | some us, some vs => K (.func fn us.toArray vs.toArray)
   | _, _ => False
 | .slice t x lo hi none => match fev fr x, aget T.es t with
   | some (.slice A n c), some es => match lo.map (fev fr), hi.map (fev fr) with
     | none, none => VSl A n c es 0 n K
     | some (some (.int _ l)), none => VSl A n c es l n K
     | none, some (some (.int _ h)) => VSl A n c es 0 h K
     | some (some (.int _ l)), some (some (.int _ h)) => VSl A n c es l h K
     | _, _ => False
   | _, _ => VQ P o fr S K
 | .call c => match c.args.toList with
   | [x] => match fev fr x with
     | some (.slice _ n _) => match (c.argTypes.toList.head?).bind (fun t => aget T.es t) with
       | some _ => K (.int .i64 n)
       | none => VQ P o fr S K
     | _ => VQ P o fr S K
   | _ => VQ P o fr S K
 | _ => VQ P o fr S K
def callV (T : Tab) (P : Program) (o : Oper) (c : Call) (fr : Fr) (w : World) (K : Value → World → Prop) : Prop := match c.callee with
 | .value f => match fev fr f with
   | some (.func (.func g) first cap) => match fevs fr c.args.toList with
     | some vs => match T.bad.contains g with
       | true => VW P o fr w K
       | false => VCall P g (first ++ vs.toArray ++ cap) w K
     | none => False
   | _ => VW P o fr w K
 | .builtin b => match b with
   | .append => match fevs fr c.args.toList with
     | some vs => VApp P c.argTypes o.type vs w K
     | none => False
   | _ => VW P o fr w K
 | _ => VW P o fr w K
def ev (T : Tab) (P : Program) (o : Oper) (fr : Fr) (w : World) (K : Value → World → Prop) : Prop := match o.op with
 | .store ty x y => match fev fr x, fev fr y with
   | some (.pointer (some ⟨b, off, none⟩)), some v => VStore P ty b off v w fun w' => K undef w'
   | _, _ => False
 | .box t x => withV (fev fr x) fun v => VNew w v.cells t fun g w' => K (.pointer (some ⟨g, 0, none⟩)) w'
 | .alloc t => VZero P t fun v => VNew w v.cells t fun g w' => K (.pointer (some ⟨g, 0, none⟩)) w'
 | .call c => callV T P o c fr w K
 | .buildSlice t n ps => match fevp fr ps.toList with
   | some l => VBs P t n l w K
   | none => False
 | _ => VW P o fr w K
def putK (n : Nat) (dst : Option Nat) (v : Value) (fr : Fr) (K : Fr → Prop) : Prop := match dst with
 | none => K fr
 | some d => match Nat.blt d n with
   | true => K ((d, v) :: fr)
   | false => False
def gd (n : Nat) (l0 : List Oper) (fr : Fr) (o : Oper) (run skip : Prop) : Prop := match o.guard with
 | none => run
 | some (j, want) => match nthE l0 j with
   | none => skip
   | some oj => match oj.dst with
     | none => skip
     | some d => match Nat.blt d n with
       | false => False
       | true => match aget fr d with
         | some (.bool t) => match t with
           | true => (match want with | true => run | false => skip)
           | false => (match want with | true => skip | false => run)
         | some (.tuple _) => skip
         | _ => False
def kW (K : Value → World → Prop) (w : World) : Value → Prop := fun v => K v w
def kOp (n : Nat) (dst : Option Nat) (fr : Fr) (next : Fr → World → (Fr → World → Prop) → Prop) (K : Fr → World → Prop) : Value → World → Prop := fun v w => putK n dst v fr fun fr' => next fr' w K
def kQ (n : Nat) (dst : Option Nat) (fr : Fr) (next : Fr → (Fr → Prop) → Prop) (K : Fr → Prop) : Value → Prop := fun v => putK n dst v fr fun fr' => next fr' K
def kWS (i z : Nat) (S : World → Prop) (n : Nat) (dst : Option Nat) (fr : Fr) (next : Fr → World → (Fr → World → Prop) → Prop) (K : Fr → World → Prop) : Value → World → Prop := fun v w => VS i z S w (putK n dst v fr fun fr' => next fr' w K)
def kSeq (next : Fr → World → (Exit → Fr → World → Prop) → Prop) (Q : Exit → Fr → World → Prop) : Exit → Fr → World → Prop := fun e fr w => match e with
 | .normal => next fr w Q
 | e => Q e fr w
def kBlk (id : Nat) (Q : Exit → Fr → World → Prop) : Exit → Fr → World → Prop := fun e fr w => match e with
 | .exit id' => match Nat.beq id' id with
   | true => Q .normal fr w
   | false => Q (.exit id') fr w
 | e => Q e fr w
def rv (T : Tab) (P : Program) (o : Oper) (fr : Fr) (w : World) (K : Value → World → Prop) : Prop := match plainBE o with
 | true => qv T P (Eq w) o fr (kW K w)
 | false => ev T P o fr w K
section
variable (T : Tab) (P : Program) (n : Nat)
def vcOps (l0 : List Oper) : List Oper → Fr → World → (Fr → World → Prop) → Prop
 | [], fr, w, K => K fr w
 | o :: r, fr, w, K => gd n l0 fr o (rv T P o fr w (kOp n o.dst fr (vcOps l0 r) K)) (kOp n o.dst fr (vcOps l0 r) K undef w)
def vcQ (l0 : List Oper) (S : World → Prop) : List Oper → Fr → (Fr → Prop) → Prop
 | [], fr, K => K fr
 | o :: r, fr, K => gd n l0 fr o (qv T P S o fr (kQ n o.dst fr (vcQ l0 S r) K)) (kQ n o.dst fr (vcQ l0 S r) K undef)
def kF (w : World) (K : Fr → World → Prop) : Fr → Prop := fun fr => K fr w
def kWO (l : List Oper) (i z : Nat) (S : World → Prop) (w : World) (next : Fr → World → (Fr → World → Prop) → Prop) (K : Fr → World → Prop) : Fr → Prop := fun fr => match nthE l i with
 | none => False
 | some o => gd n l fr o (rv T P o fr w (kWS i z S n o.dst fr next K)) (kWS i z S n o.dst fr next K undef w)
def vcWO (l : List Oper) (z : Nat) (S : World → Prop) (last : List Nat) : List (List Nat × Nat) → Fr → World → (Fr → World → Prop) → Prop
 | [], fr, w, K => vcQ T P n l S (picksE l last) fr (kF w K)
 | (is, i) :: r, fr, w, K => vcQ T P n l S (picksE l is) fr (kWO T P n l i z S w (vcWO l z S last r) K)
def kAnd (A B : Fr → Prop) : Fr → Prop := fun fr => A fr ∧ B fr
def vcPl (l : List Oper) (z : Nat) (S : World → Prop) : Pl → Fr → World → (Fr → World → Prop) → Prop
 | .stop last, fr, w, K => vcQ T P n l S (picksE l last) fr (kF w K)
 | .one is i r, fr, w, K => vcQ T P n l S (picksE l is) fr (kWO T P n l i z S w (vcPl l z S r) K)
 | .two is i r j q, fr, w, K => vcQ T P n l S (picksE l is) fr (kAnd (kWO T P n l i z S w (vcPl l z S r) K) (kWO T P n l j z S w (vcPl l z S q) K))
 | .three is i r j q k t, fr, w, K => vcQ T P n l S (picksE l is) fr (kAnd (kWO T P n l i z S w (vcPl l z S r) K) (kAnd (kWO T P n l j z S w (vcPl l z S q) K) (kWO T P n l k z S w (vcPl l z S t) K)))
def ordE (l : List Oper) (z : Nat) (segs : List (List Nat × Nat)) (last : List Nat) : Bool := (ordBE .any l.toArray z segs last || ordB2E .any l.toArray z segs last) && segs.all (fun p => (picksE l p.1).all plainBE) && (picksE l last).all plainBE
structure RepE (D : List Deferred) (n : Nat) (fr : Fr) (a : Act) : Prop where
 d : a.defers = D
 s : a.tmps.size = n
 g : ∀ i v, aget fr i = some v → a.tmps.getD i undef = v
inductive VDraw (l : List Oper) (fr : Fr) (w : World) (K : Fr → World → Prop) : Prop
 | mk (z : Nat) (segs : List (List Nat × Nat)) (last : List Nat) (S : World → Prop) (hB : ordE l z segs last = true) (hn : segLenE segs + last.length = l.length)
   (hS : S w.drew) (h : vcWO T P n l z S last segs fr w.drew K)
 | pl (z : Nat) (p : Pl) (S : World → Prop) (hB : (plOkE l z p && plPlain l p) = true) (hS : S w.drew) (h : vcPl T P n l z S p fr w.drew K)
 | esc (h : ∀ (D : List Deferred) (a : Act) (id : Nat) (Q : Exit → Act → World → Prop), RepE D n fr a → (∀ fr' a' w', RepE D n fr' a' → K fr' w' → Q .normal a' w') → (Code.region id l.toArray true).wp P Q a w)
def agr : Fr → Fr → Prop
 | [], _ => True
 | (i, v) :: r, fr => aget fr i = some v ∧ agr r fr
inductive VBack {σ : Type} (F : σ → Fr) (I : σ → World → Prop) (μ : σ → Nat) (s : σ) (fr : Fr) (w : World) : Prop
 | mk (s' : σ) (hF : agr (F s') fr) (hI : I s' w) (hm : μ s' < μ s)
def kLoop {σ : Type} (F : σ → Fr) (I : σ → World → Prop) (μ : σ → Nat) (s : σ) (Q : Exit → Fr → World → Prop) : Exit → Fr → World → Prop := fun e fr w => match e with
 | .normal => VBack F I μ s fr w
 | e => Q e fr w
inductive VLoop (body : Fr → World → (Exit → Fr → World → Prop) → Prop) (fr : Fr) (w : World) (Q : Exit → Fr → World → Prop) : Prop
 | mk (σ : Type) (F : σ → Fr) (I : σ → World → Prop) (μ : σ → Nat) (s0 : σ) (hF : agr (F s0) fr) (h0 : I s0 w)
   (hr : ∀ s w, I s w → body (F s) w (kLoop F I μ s Q))
def vcC : Code → Fr → World → (Exit → Fr → World → Prop) → Prop
 | .skip, fr, w, Q => Q .normal fr w
 | .region _ ops false, fr, w, Q => vcOps T P n ops.toList ops.toList fr w (Q .normal)
 | .region _ ops true, fr, w, Q => VDraw T P n ops.toList fr w (Q .normal)
 | .seq a b, fr, w, Q => vcC a fr w (kSeq (vcC b) Q)
 | .cond c a b, fr, w, Q => match fev fr c with
   | some (.bool t) => match t with
     | true => vcC a fr w Q
     | false => vcC b fr w Q
   | _ => False
 | .block id c, fr, w, Q => vcC c fr w (kBlk id Q)
 | .loop c, fr, w, Q => VLoop (vcC c) fr w Q
 | .exit id, fr, w, Q => Q (.exit id) fr w
 | .ret, fr, w, Q => Q .ret fr w
 | _, _, _, _ => False
end
def frI : Nat → List Value → Fr
 | _, [] => []
 | i, v :: r => (i, v) :: frI (i + 1) r
def vcRes (P : Program) : List ResultVar → Fr → World → (List Value → Prop) → Prop
 | [], _, _, K => K []
 | .tmp t :: r, fr, w, K => withV (aget fr t) fun v => vcRes P r fr w fun vs => K (v :: vs)
 | .cell a t :: r, fr, w, K => match aget fr a with
   | some (.pointer (some ⟨b, off, none⟩)) => VLoad P t b off (Eq w) fun v => vcRes P r fr w fun vs => K (v :: vs)
   | _ => False
def oneV : List Value → Value
 | [v] => v
 | vs => .tuple vs.toArray
def kDone (R : Ending → World → Prop) (w : World) : List Value → Prop := fun vs => VDone (R (.returned (oneV vs)) w)
def kEnd (P : Program) (rs : List ResultVar) (R : Ending → World → Prop) : Exit → Fr → World → Prop := fun e fr w => match e with
 | .normal | .ret => vcRes P rs fr w (kDone R w)
 | _ => False
def vcF (T : Tab) (P : Program) (fn : Func) (args : List Value) (w : World) (R : Ending → World → Prop) : Prop := match fn.body with
 | some c => vcC T P fn.ntmps c (frI 0 args) w (kEnd P fn.results.toList R)
 | none => False
variable {D : List Deferred}
def AgE (fr : Fr) (a : Act) : Prop := ∀ x u, fev fr x = some u → a.eval x = u
theorem RepE.ag {n : Nat} {fr : Fr} {a : Act} (h : RepE D n fr a) : AgE fr a := fun x u hx => by
 cases x with
 | tmp t => exact h.g t u hx
 | const v => simpa [fev, Act.eval] using hx
 | global g => simpa [fev, Act.eval] using hx
 | func f => simpa [fev, Act.eval] using hx
theorem RepE.put {n d : Nat} {fr : Fr} {a : Act} {v : Value} (h : RepE D n fr a) (hd : Nat.blt d n = true) : RepE D n ((d, v) :: fr) (a.put (some d) v) := by
 have hd' : d < n := by simpa using hd
 refine ⟨h.d, by simp [Act.put, h.s], fun i u hi => ?_⟩
 unfold aget at hi
 have hs := h.s
 split at hi
 · rename_i e
   have e := Nat.eq_of_beq_eq_true e
   injection hi with hi; subst hi; subst e
   simp [Act.put, Array.getD_eq_getD_getElem?, Array.getElem?_setIfInBounds, hs, hd']
 · rename_i e
   have e : d ≠ i := by intro e2; subst e2; simp at e
   have := h.g i u hi
   simpa [Act.put, Array.getD_eq_getD_getElem?, Array.getElem?_setIfInBounds, e] using this
theorem putK_ok {n : Nat} {dst : Option Nat} {v : Value} {fr : Fr} {a : Act} {K : Fr → Prop} (h : putK n dst v fr K) (hr : RepE D n fr a) : ∃ fr', RepE D n fr' (a.put dst v) ∧ K fr' := by
 cases dst with
 | none => exact ⟨fr, hr, h⟩
 | some d =>
   unfold putK at h
   dsimp only at h
   split at h
   · rename_i e; exact ⟨_, hr.put e, h⟩
   · exact h.elim
theorem AgE.evs {fr : Fr} {a : Act} (h : AgE fr a) : ∀ {l : List Operand} {vs : List Value}, fevs fr l = some vs → l.map a.eval = vs
 | [], vs, e => by simp [fevs] at e; simp [e]
 | x :: r, vs, e => by
   unfold fevs at e
   split at e
   · rename_i v hv
     split at e
     · rename_i us hu
       injection e with e; subst e
       rw [List.map_cons, h x v hv, AgE.evs h hu]
     · cases e
   · cases e
theorem AgE.evp {fr : Fr} {a : Act} (h : AgE fr a) : ∀ {l : List (Nat × Operand)} {vs : List (Nat × Value)}, fevp fr l = some vs → l.map (fun p => (p.1, a.eval p.2)) = vs
 | [], vs, e => by simp [fevp] at e; simp [e]
 | (i, x) :: r, vs, e => by
   unfold fevp at e
   split at e
   · rename_i v hv
     split at e
     · rename_i us hu
       injection e with e; subst e
       rw [List.map_cons, h x v hv, AgE.evp h hu]
     · cases e
   · cases e
section
variable {T : Tab} {P : Program}
theorem tab_all {α : Type} {l : List (Nat × α)} {f : Nat × α → Bool} (h : l.all f = true) {i : Nat} {v : α} (hi : aget l i = some v) : f (i, v) = true := List.all_eq_true.1 h _ (aget_mem hi)
theorem chkFs_ok : ∀ {fs : List Field} {l : List (Nat × Nat × Bool)} {i : Nat} {p : Nat × Nat × Bool}, chkFs P fs l = true → nthE l i = some p → ∃ f, fs[i]? = some f ∧ f.offset = p.1 ∧ sizeB P f.type = some p.2.1 ∧ aggB P f.type = some p.2.2
 | _, [], i, p, _, hi => by simp [nthE] at hi
 | [], _ :: _, i, p, h, _ => by simp [chkFs] at h
 | f :: fs, q :: l, i, p, h, hi => by
   unfold chkFs at h
   simp only [Bool.and_eq_true, beq_iff_eq] at h
   cases i with
   | zero =>
     simp [nthE] at hi; subst hi
     exact ⟨f, rfl, h.1.1.1, h.1.1.2, h.1.2⟩
   | succ i =>
     have := chkFs_ok (i := i) h.2 hi
     simpa using this
structure TabOk (P : Program) (T : Tab) : Prop where
 mo : P.follows .mixedOrders = true
 fd : T.fd.all (chkFd P) = true
 es : T.es.all (chkEs P) = true
 ar : T.ar.all (chkAr P) = true
 ik : T.ik.all (chkIk P) = true
 kd : T.kd.all (chkKd P) = true
 eg : T.eg.all (fun t => !P.eqGuardType P.depth t) = true
 fn : (List.range P.funcs.size).all (chkFn P T.bad) = true
theorem tab_of (h : tabB P T = true) : TabOk P T := by
 unfold tabB at h
 simp only [Bool.and_eq_true] at h
 exact ⟨h.1.1.1.1.1.1.1, h.1.1.1.1.1.1.2, h.1.1.1.1.1.2, h.1.1.1.1.2, h.1.1.1.2, h.1.1.2, h.1.2, h.2⟩
theorem TabOk.field (hT : TabOk P T) {s f : Nat} {p : Nat × Nat × Bool} (h : (aget T.fd s).bind (nthE · f) = some p) : ∃ fs fl, P.underlying s = some (.struct fs) ∧ fs[f]? = some fl ∧ fl.offset = p.1 ∧ sizeB P fl.type = some p.2.1 ∧ aggB P fl.type = some p.2.2 := by
 cases hl : aget T.fd s with
 | none => rw [hl] at h; simp at h
 | some l =>
   rw [hl] at h
   simp at h
   have h1 := tab_all hT.fd hl
   unfold chkFd at h1
   split at h1
   · rename_i fs hu
     obtain ⟨fl, h2, h3⟩ := chkFs_ok h1 h
     exact ⟨fs, fl, hu, by simpa using h2, h3⟩
   · cases h1
theorem run_size {t sz : Nat} (h : sizeB P t = some sz) (w : World) : (sizeOf t).run P w = .ok sz w := by
 unfold sizeB at h
 cases hi : P.info? t with
 | none => rw [hi] at h; simp at h
 | some i =>
   rw [hi] at h
   simp at h
   simp [sizeOf, typeInfo, hi, h, Result.andThen]
theorem run_agg {t : Nat} {g : Bool} (h : aggB P t = some g) (w : World) : (isAgg t).run P w = .ok g w := by
 unfold aggB at h
 cases hu : P.underlying t with
 | none => rw [hu] at h; simp at h
 | some d =>
   rw [hu] at h
   unfold isAgg
   simp only [Sem.run_bind, run_underlying hu, Result.andThen_ok]
   cases d <;> simp at h ⊢ <;> exact h
theorem run_fieldAt (hT : TabOk P T) {s f d sz : Nat} {g : Bool} (h : (aget T.fd s).bind (nthE · f) = some (d, sz, g)) (h0 : Nat.beq sz 0 = false) (b off : Nat) (w : World) :
   (Instr.fieldAt s (.pointer (some ⟨b, off, none⟩)) f).run P w = .ok (.pointer (some ⟨b, addO off d, none⟩)) w := by
 obtain ⟨fs, fl, hu, hf, hd, hs, -⟩ := hT.field h
 dsimp only at hd hs
 have h0' : ¬ sz = 0 := by intro e; subst e; simp at h0
 unfold Instr.fieldAt
 simp only [Sem.run_bind, run_underlying hu, Result.andThen_ok, hf, Instr.sureAddr, Sem.run_pure, fieldPlace, run_size hs, if_neg h0', hd, addO_eq, Addr.add]
 by_cases e : d = 0
 · subst e; simp
 · simp [e]
theorem run_field (hT : TabOk P T) {t f d sz : Nat} {g : Bool} (h : (aget T.fd t).bind (nthE · f) = some (d, sz, g)) (cs : Array Value) (w : World) (v : Value)
   (hv : match g with | true => v = .agg ((cs.toList.drop d).take sz).toArray | false => nthE cs.toList d = some v) : (Instr.field t (.agg cs) f).run P w = .ok v w := by
 obtain ⟨fs, fl, hu, hf, hd, hs, hg⟩ := hT.field h
 dsimp only at hd hs hg
 unfold Instr.field
 simp only [Sem.run_bind, run_underlying hu, Result.andThen_ok, hf, part, run_agg hg, asAgg, Sem.run_pure, hd]
 cases g with
 | true =>
   dsimp only at hv
   subst hv
   simp only [if_true, Sem.run_bind, run_size hs, Result.andThen_ok, Sem.run_pure]
   congr 2
   apply Array.ext'
   simp [Array.toList_extract, List.extract_eq_take_drop]
 | false =>
   dsimp only at hv
   rw [nth_eq] at hv
   have hv' : cs[d]? = some v := by simpa using hv
   simp [hv']
theorem run_indexAt (hT : TabOk P T) {t es : Nat} (h : aget T.es t = some es) (b off n c j : Nat) (k : IntKind) (hj : j < n) (w : World) :
   (Instr.indexAt t (.slice (some ⟨b, off, none⟩) n c) (.int k (j : Int))).run P w = .ok (.pointer (some ⟨b, off + mulO j es, none⟩)) w := by
 have h1 := tab_all hT.es h
 unfold chkEs at h1
 split at h1
 · rename_i e hu
   dsimp only at hu
   have hs : sizeB P e = some es := by simpa using h1
   unfold Instr.indexAt
   have hc : (0 : Int) ≤ (j : Int) ∧ (j : Int) < (n : Int) := by omega
   simp only [Sem.run_bind, asIntOf, Sem.run_pure, run_underlying hu, Result.andThen_ok, if_pos hc, run_size hs, mulO_eq, Int.toNat_natCast, Addr.add]
   by_cases e : j * es = 0
   · rw [if_pos e, e]; rfl
   · rw [if_neg e]
 · cases h1
theorem run_indexAr (hT : TabOk P T) {t es n : Nat} (h : aget T.ar t = some (n, es)) (b off j : Nat) (k : IntKind) (hj : j < n) (w : World) :
   (Instr.indexAt t (.pointer (some ⟨b, off, none⟩)) (.int k (j : Int))).run P w = .ok (.pointer (some ⟨b, off + mulO j es, none⟩)) w := by
 have h1 := tab_all hT.ar h
 unfold chkAr at h1
 split at h1
 · rename_i m e hu
   dsimp only at hu
   simp only [Bool.and_eq_true, beq_iff_eq] at h1
   obtain ⟨h1, hs⟩ := h1
   subst h1
   unfold Instr.indexAt
   have hc : (0 : Int) ≤ (j : Int) ∧ (j : Int) < (m : Int) := by omega
   simp only [Sem.run_bind, asIntOf, Sem.run_pure, run_underlying hu, Result.andThen_ok, Instr.sureAddr, if_pos hc, run_size hs, mulO_eq, Int.toNat_natCast, Addr.add]
   by_cases e : j * es = 0
   · rw [if_pos e, e]; rfl
   · rw [if_neg e]
 · cases h1
theorem run_v {s : Sem Value} {v : Value} {w w' : World} (h : s.run P w = .ok v w') : (do pure (Next.value (← s)) : Sem Next).run P w = .ok (.value v) w' := by
 rw [Sem.run_bind, h]; rfl
theorem withV_ok {o : Option Value} {K : Value → Prop} (h : withV o K) : ∃ v, o = some v ∧ K v := by
 cases o with
 | none => exact h.elim
 | some v => exact ⟨v, rfl, h⟩
def Yl (P : Program) (o : Oper) (a : Act) (S : World → Prop) (v : Value) : Prop := ∀ W, S W → (execOp a.eval o).run P W = .ok (.value v) W
theorem cmp_ok {op : BinOp} {x y : Int} {K : Value → Prop} (h : cmpV op x y K) : ∃ v, (∀ w, (Op.intCmp op x y).run P w = .ok v w) ∧ K v := by
 unfold cmpV at h
 cases op <;> simp only at h <;> try exact h.elim
 all_goals
   cases h with
   | tt h hk => exact ⟨_, fun w => by simp [Op.intCmp, h], hk⟩
   | ff h hk => exact ⟨_, fun w => by first | (simp [Op.intCmp, h]; done) | (simp [Op.intCmp]; omega), hk⟩
theorem run_eqB {t : TypeId} (hu : P.underlying t = some .bool) (a b : Bool) (W : World) : (Op.equal t (.bool a) (.bool b)).run P W = .ok (a == b) W := by
 rw [show Op.equal t (.bool a) (.bool b) = Op.equalIn (9999 + 1) t (.bool a) (.bool b) from rfl]
 unfold Op.equalIn
 simp only [Sem.run_bind, run_underlying hu, Result.andThen_ok, Sem.run_pure]
theorem run_eqP {t e : TypeId} (hu : P.underlying t = some (.pointer e)) (p : Option Addr) (W : World) : (Op.equal t (.pointer p) (.pointer none)).run P W = .ok p.isNone W := by
 rw [show Op.equal t (.pointer p) (.pointer none) = Op.equalIn (9999 + 1) t (.pointer p) (.pointer none) from rfl]
 unfold Op.equalIn
 cases p <;> simp only [Sem.run_bind, run_underlying hu, Result.andThen_ok, Sem.run_pure] <;> rfl
theorem run_eqS {t e : TypeId} (hu : P.underlying t = some (.slice e)) (p : Option Addr) (n c m d : Nat) (W : World) : (Op.equal t (.slice p n c) (.slice none m d)).run P W = .ok p.isNone W := by
 rw [show Op.equal t (.slice p n c) (.slice none m d) = Op.equalIn (9999 + 1) t (.slice p n c) (.slice none m d) from rfl]
 unfold Op.equalIn
 cases p <;> simp only [Sem.run_bind, run_underlying hu, Result.andThen_ok, Sem.run_pure] <;> rfl
theorem bin_ok (hT : TabOk P T) {S : World → Prop} {o : Oper} {fr : Fr} {a : Act} {op : BinOp} {t t' : TypeId} {x y : Operand} {K : Value → Prop} (ho : o.op = .binOp op t x y t') (ha : AgE fr a) (h : binV T P S o fr op t x y K) : ∃ v, Yl P o a S v ∧ K v := by
 have vq : VQ P o fr S K → ∃ v, Yl P o a S v ∧ K v := fun h => by
   cases h with
   | mk v h hk => exact ⟨v, h a ha, hk⟩
 unfold binV at h
 split at h
 · rename_i k x' k' y' hx hy
   have ex := ha _ _ hx
   have ey := ha _ _ hy
   have hgd : ∀ W, (eqGuard op t x y (.int k x') (.int k' y')).run P W = .ok () W := fun W => by
     unfold eqGuard; cases op <;> rfl
   split at h
   all_goals first
     | exact vq h
     | (split at h
        · rename_i hk
          have hk := eq_of_beq hk
          subst hk
          first
            | (cases h with
               | mk e hk => exact ⟨_, fun W _ => by
                   unfold execOp; rw [ho]; dsimp only; rw [ex, ey]
                   refine run_v ?_
                   rw [Sem.run_bind, hgd]
                   simp [binOp, Op.intArith, e, Result.andThen], hk⟩
               | wr hk => exact ⟨_, fun W _ => by
                   unfold execOp; rw [ho]; dsimp only; rw [ex, ey]
                   refine run_v ?_
                   rw [Sem.run_bind, hgd]
                   simp [binOp, Op.intArith, Result.andThen], hk⟩)
            | (obtain ⟨v, hv, hk⟩ := cmp_ok (P := P) h
               exact ⟨v, fun W _ => by
                 unfold execOp; rw [ho]; dsimp only; rw [ex, ey]
                 refine run_v ?_
                 rw [Sem.run_bind, hgd]
                 simpa [binOp, Result.andThen] using hv W, hk⟩)
        · exact h.elim)
 · rename_i x' y' hx hy
   have ex := ha _ _ hx
   have ey := ha _ _ hy
   split at h
   · rename_i he
     have hg := List.all_eq_true.1 hT.eg t (by simpa using he)
     have hgd : ∀ W, (eqGuard op t x y (.agg x') (.agg y')).run P W = .ok () W := fun W => by
       unfold eqGuard
       have hg' : P.eqGuardType P.depth t = false := by simpa using hg
       cases op <;> first | rfl | simp [hg', Result.andThen]
     cases h with
     | mk v hv hk => exact ⟨v, fun W hW => by
         unfold execOp; rw [ho]; dsimp only; rw [ex, ey]
         refine run_v ?_
         rw [Sem.run_bind, hgd]
         exact hv.out W hW, hk⟩
   · exact vq h
 · rename_i x' y' hx hy
   have ex := ha _ _ hx
   have ey := ha _ _ hy
   have hgd : ∀ W, (eqGuard op t x y (.string x') (.string y')).run P W = .ok () W := fun W => by
     unfold eqGuard; cases op <;> rfl
   split at h
   all_goals first
     | exact vq h
     | (cases h with
        | tt e hk => exact ⟨_, fun W _ => by
            unfold execOp; rw [ho]; dsimp only; rw [ex, ey]
            refine run_v ?_
            rw [Sem.run_bind, hgd]
            simp [binOp, Op.stringOp, e, Result.andThen], hk⟩
        | ff e hk => exact ⟨_, fun W _ => by
            unfold execOp; rw [ho]; dsimp only; rw [ex, ey]
            refine run_v ?_
            rw [Sem.run_bind, hgd]
            simp [binOp, Op.stringOp, e, Result.andThen], hk⟩)
 · rename_i x' y' hx hy
   have ex := ha _ _ hx
   have ey := ha _ _ hy
   have hgd : ∀ W, (eqGuard op t x y (.bool x') (.bool y')).run P W = .ok () W := fun W => by
     unfold eqGuard; cases op <;> rfl
   split at h
   · rename_i ht
     have hu := tab_all hT.kd ht
     unfold chkKd at hu
     have hu2 : P.underlying t = some .bool := by
       split at hu
       · assumption
       · simp at hu
       · simp at hu
       · cases hu
     split at h
     all_goals first
       | exact vq h
       | exact ⟨_, fun W _ => by
           unfold execOp; rw [ho]; dsimp only; rw [ex, ey]
           refine run_v ?_
           rw [Sem.run_bind, hgd]
           simp only [binOp, Sem.run_bind, run_eqB hu2, Result.andThen_ok, Sem.run_pure], h⟩
   · exact vq h
 · rename_i p hx hy
   have ex := ha _ _ hx
   have ey := ha _ _ hy
   have hgd : ∀ W, (eqGuard op t x y (.pointer p) (.pointer none)).run P W = .ok () W := fun W => by
     unfold eqGuard; cases op <;> rfl
   split at h
   · rename_i ht
     have hu := tab_all hT.kd ht
     unfold chkKd at hu
     have hu2 : ∃ e, P.underlying t = some (.pointer e) := by
       split at hu
       · simp at hu
       · exact ⟨_, by assumption⟩
       · simp at hu
       · cases hu
     obtain ⟨e, hu2⟩ := hu2
     split at h
     all_goals first
       | exact vq h
       | exact ⟨_, fun W _ => by
           unfold execOp; rw [ho]; dsimp only; rw [ex, ey]
           refine run_v ?_
           rw [Sem.run_bind, hgd]
           simp only [binOp, Sem.run_bind, run_eqP hu2, Result.andThen_ok, Sem.run_pure], h⟩
   · exact vq h
 · rename_i p n1 c1 n2 c2 hx hy
   have ex := ha _ _ hx
   have ey := ha _ _ hy
   have hgd : ∀ W, (eqGuard op t x y (.slice p n1 c1) (.slice none n2 c2)).run P W = .ok () W := fun W => by
     unfold eqGuard; cases op <;> rfl
   split at h
   · rename_i ht
     have hu := tab_all hT.kd ht
     unfold chkKd at hu
     have hu2 : ∃ e, P.underlying t = some (.slice e) := by
       split at hu
       · simp at hu
       · simp at hu
       · exact ⟨_, by assumption⟩
       · cases hu
     obtain ⟨e, hu2⟩ := hu2
     split at h
     all_goals first
       | exact vq h
       | exact ⟨_, fun W _ => by
           unfold execOp; rw [ho]; dsimp only; rw [ex, ey]
           refine run_v ?_
           rw [Sem.run_bind, hgd]
           simp only [binOp, Sem.run_bind, run_eqS hu2, Result.andThen_ok, Sem.run_pure], h⟩
   · exact vq h
 · exact vq h
theorem field_ok (hT : TabOk P T) {S : World → Prop} {o : Oper} {fr : Fr} {a : Act} {t : TypeId} {x : Operand} {f : Nat} {cs : Array Value} {p : Nat × Nat × Bool} {K : Value → Prop} (ho : o.op = .field t x f) (ha : AgE fr a) (hx : fev fr x = some (.agg cs))
   (hp : (aget T.fd t).bind (nthE · f) = some p) (h : fieldV cs p K) : ∃ v, Yl P o a S v ∧ K v := by
 obtain ⟨d, sz, g⟩ := p
 have ex := ha _ _ hx
 cases g with
 | true => exact ⟨_, fun W _ => by
     unfold execOp; rw [ho]; dsimp only; rw [ex]
     exact run_v (run_field hT hp cs W _ rfl), h⟩
 | false =>
   obtain ⟨v, hv, hk⟩ := withV_ok h
   exact ⟨v, fun W _ => by
     unfold execOp; rw [ho]; dsimp only; rw [ex]
     exact run_v (run_field hT hp cs W v hv), hk⟩
theorem fevs1 {fr : Fr} {a : Act} (ha : AgE fr a) {x : Operand} {v : Value} (h : fev fr x = some v) {l : Array Operand} (hl : l.toList = [x]) : l.map a.eval = #[v] := by
 apply Array.ext'
 rw [Array.toList_map, hl, List.map_cons, ha x v h]; rfl
theorem run_sliceAt (hT : TabOk P T) {t es : Nat} (h : aget T.es t = some es) (A : Option Addr) (n c l hh : Nat) (lo hi : Option Value) (hlo : match lo with | none => l = 0 | some v => ∃ k, v = .int k (l : Int)) (hhi : match hi with | none => hh = n | some v => ∃ k, v = .int k (hh : Int)) (h1 : l ≤ hh) (h2 : hh ≤ c) (w : World) :
   (Instr.sliceAt t (.slice A n c) lo hi none).run P w = .ok (.slice (if c = l then A else A.map (·.add (l * es))) (hh - l) (c - l)) w := by
 have h3 := tab_all hT.es h
 unfold chkEs at h3
 split at h3
 · rename_i e hu
   dsimp only at hu
   have hs : sizeB P e = some es := by simpa using h3
   have c1 : (0 : Int) ≤ (l : Int) ∧ (l : Int) ≤ (hh : Int) := by omega
   have c2 : (0 : Int) ≤ (hh : Int) ∧ (hh : Int) ≤ (c : Int) := by omega
   unfold Instr.sliceAt
   simp only [Sem.run_bind, run_underlying hu, Result.andThen_ok]
   unfold Instr.slice
   simp only [Sem.run_bind, run_underlying hu, Result.andThen_ok]
   unfold Instr.sliceBounds
   cases lo with
   | none =>
     dsimp only at hlo
     subst hlo
     cases hi with
     | none =>
       dsimp only at hhi
       subst hhi
       simp only [Sem.run_bind, Sem.run_pure, Result.andThen_ok, run_size hs]
     | some v =>
       obtain ⟨k, rfl⟩ := hhi
       simp only [Sem.run_bind, Sem.run_pure, Result.andThen_ok, run_size hs, Instr.sliceBound, asIntOf, if_pos c2, Int.toNat_natCast]
   | some u =>
     obtain ⟨k', rfl⟩ := hlo
     cases hi with
     | none =>
       dsimp only at hhi
       subst hhi
       simp only [Sem.run_bind, Sem.run_pure, Result.andThen_ok, run_size hs, Instr.sliceBound, asIntOf, if_pos c1, Int.toNat_natCast]
     | some v =>
       obtain ⟨k, rfl⟩ := hhi
       simp only [Sem.run_bind, Sem.run_pure, Result.andThen_ok, run_size hs, Instr.sliceBound, asIntOf, if_pos c1, if_pos c2, Int.toNat_natCast]
 · cases h3
theorem VSl.ok {A : Option Addr} {n c es : Nat} {lo hi : Int} {K : Value → Prop} (h : VSl A n c es lo hi K) : ∃ l hh : Nat, lo = l ∧ hi = hh ∧ l ≤ hh ∧ hh ≤ c ∧ K (.slice (if c = l then A else A.map (·.add (l * es))) (hh - l) (c - l)) := by
 cases h with
 | mk l hh h1 h2 h3 h4 hk => exact ⟨l, hh, h1, h2, h3, h4, hk⟩
theorem run_len (hT : TabOk P T) {t es : Nat} (h : aget T.es t = some es) (ats : Array TypeId) (ha : ats.toList.head? = some t) (ty : TypeId) (A : Option Addr) (n c : Nat) (w : World) :
   (Builtin.len_ ats ty #[.slice A n c]).run P w = .ok (.int .i64 n) w := by
 have h1 := tab_all hT.es h
 unfold chkEs at h1
 split at h1
 · rename_i e hu
   dsimp only at hu
   have h0 : ats[0]? = some t := by
     rw [List.head?_eq_getElem?] at ha; simpa using ha
   unfold Builtin.len_
   simp only [h0, List.getElem?_toArray, List.getElem?_cons_zero, Sem.run_bind, run_underlying hu, Result.andThen_ok, Sem.run_pure, goInt]
 · cases h1
set_option maxHeartbeats 1000000 in
theorem qv_ok (hT : TabOk P T) {S : World → Prop} {o : Oper} {fr : Fr} {a : Act} {K : Value → Prop} (hp : plainBE o = true) (ha : AgE fr a) (h : qv T P S o fr K) : ∃ v, Yl P o a S v ∧ K v := by
 have vq : VQ P o fr S K → ∃ v, Yl P o a S v ∧ K v := fun h => by
   cases h with
   | mk v h hk => exact ⟨v, h a ha, hk⟩
 unfold qv at h
 split at h
 · rename_i x ho
   obtain ⟨v, hv, hk⟩ := withV_ok h
   exact ⟨v, fun W _ => by unfold execOp; rw [ho]; dsimp only; rw [ha _ _ hv]; rfl, hk⟩
 · rename_i x ho
   obtain ⟨v, hv, hk⟩ := withV_ok h
   exact ⟨v, fun W _ => by unfold execOp; rw [ho]; dsimp only; rw [ha _ _ hv]; rfl, hk⟩
 · rename_i c x y ho
   split at h
   · rename_i t hc
     cases t with
     | true =>
       obtain ⟨v, hv, hk⟩ := withV_ok h
       exact ⟨v, fun W _ => by unfold execOp; rw [ho]; dsimp only; rw [ha _ _ hc, ha _ _ hv]; rfl, hk⟩
     | false =>
       obtain ⟨v, hv, hk⟩ := withV_ok h
       exact ⟨v, fun W _ => by unfold execOp; rw [ho]; dsimp only; rw [ha _ _ hc, ha _ _ hv]; rfl, hk⟩
   · exact h.elim
 · rename_i x ho
   split at h
   · rename_i p hx
     exact ⟨_, fun W _ => by unfold execOp; rw [ho]; dsimp only; rw [ha _ _ hx]; rfl, h⟩
   · exact vq h
 · rename_i s x f ho
   split at h
   · rename_i b off hx
     split at h
     · rename_i d sz g hf
       split at h
       · exact h.elim
       · rename_i h0
         exact ⟨_, fun W _ => by unfold execOp; rw [ho]; dsimp only; rw [ha _ _ hx]; exact run_v (run_fieldAt hT hf h0 b off W), h⟩
     · exact h.elim
   · exact h.elim
 · rename_i t x ix ho
   split at h
   · rename_i b off n c k i hx hi
     split at h
     · rename_i es he
       cases h with
       | mk j hj hl hk => exact ⟨_, fun W _ => by unfold execOp; rw [ho]; dsimp only; rw [ha _ _ hx, ha _ _ hi, hj]; exact run_v (run_indexAt hT he b off n c j k hl W), hk⟩
     · exact h.elim
   · rename_i b off k i hx hi
     split at h
     · rename_i n es he
       cases h with
       | mk j hj hl hk => exact ⟨_, fun W _ => by unfold execOp; rw [ho]; dsimp only; rw [ha _ _ hx, ha _ _ hi, hj]; exact run_v (run_indexAr hT he b off j k hl W), hk⟩
     · exact h.elim
   · exact h.elim
 · rename_i ty x ho
   split at h
   · rename_i b off hx
     cases h with
     | mk v hv hk => exact ⟨v, fun W hW => by unfold execOp; rw [ho]; dsimp only; rw [ha _ _ hx]; refine run_v ?_; simp only [Instr.loadAt, Instr.sureAddr, Sem.run_bind, Sem.run_pure, Result.andThen_ok, hv.out W hW], hk⟩
   · exact h.elim
 · rename_i op t x y t' ho
   exact bin_ok hT ho ha h
 · rename_i op t x ho
   split at h
   · rename_i t' hx
     exact ⟨_, fun W _ => by unfold execOp; rw [ho]; dsimp only; rw [ha _ _ hx]; rfl, h⟩
   · rename_i k n hx
     cases h with
     | mk e hk => exact ⟨_, fun W _ => by
         unfold execOp; rw [ho]; dsimp only; rw [ha _ _ hx]
         refine run_v ?_
         simp [Op.unary, Op.intArith, e]; simpa using e, hk⟩
     | wr hk => exact ⟨_, fun W _ => by
         unfold execOp; rw [ho]; dsimp only; rw [ha _ _ hx]
         refine run_v ?_
         simp [Op.unary, Op.intArith], hk⟩
   · exact vq h
 · rename_i t i ho
   split at h
   · rename_i vs hx
     obtain ⟨v, hv, hk⟩ := withV_ok h
     rw [nth_eq] at hv
     have hv' : vs[i]? = some v := by simpa using hv
     exact ⟨v, fun W _ => by unfold execOp; rw [ho]; dsimp only; rw [ha _ _ hx]; refine run_v ?_; simp [Instr.extract, hv'], hk⟩
   · exact h.elim
 · rename_i t x f ho
   split at h
   · rename_i cs hx
     split at h
     · rename_i p hp
       exact field_ok hT ho ha hx hp h
     · exact h.elim
   · exact h.elim
 · rename_i t ps ho
   split at h
   · rename_i l hl
     cases h with
     | mk v hv hk => exact ⟨v, fun W _ => by
         unfold execOp; rw [ho]; dsimp only
         refine run_v ?_
         rw [← hv W]
         congr 2
         apply Array.ext'
         rw [Array.toList_map, ← ha.evp hl], hk⟩
   · exact h.elim
 · rename_i s d x ho
   split at h
   · rename_i k' n k0 k hx hk0 hk
     have h1 := tab_all hT.ik hk
     have h0 := tab_all hT.ik hk0
     unfold chkIk at h1 h0
     split at h1
     · rename_i k2 hu
       split at h0
       · rename_i k3 hs
         dsimp only at hu hs
         have hk2 : k2 = k := by simpa using h1
         subst hk2
         have hrun : ∀ v, k2.wrap n = v → ∀ W, (execOp a.eval o).run P W = .ok (.value (.int k2 v)) W := fun v e W => by
           unfold execOp; rw [ho]; dsimp only; rw [ha _ _ hx]
           refine run_v ?_
           unfold convert
           simp only [Sem.run_bind, run_underlying hs, run_underlying hu, Result.andThen_ok]
           simp [Conv.intToInt, e]
         cases h with
         | mk e hk => exact ⟨_, fun W _ => hrun _ e W, hk⟩
         | wr hk => exact ⟨_, fun W _ => hrun _ rfl W, hk⟩
       · cases h0
     · cases h1
   · rename_i hx _
     cases h with
     | mk u hu hk => exact ⟨u, fun W hW => by unfold execOp; rw [ho]; dsimp only; rw [ha _ _ hx]; exact run_v (hu.out W hW), hk⟩
   · exact vq h
 · rename_i fn xs ys ho
   split at h
   · rename_i us vs hu hv
     refine ⟨_, fun W _ => ?_, h⟩
     unfold execOp; rw [ho]; dsimp only
     refine run_v ?_
     have e1 : xs.map a.eval = us.toArray := by apply Array.ext'; rw [Array.toList_map, ha.evs hu]
     have e2 : ys.map a.eval = vs.toArray := by apply Array.ext'; rw [Array.toList_map, ha.evs hv]
     rw [e1, e2]; rfl
   · exact h.elim
 · rename_i t x lo hi ho
   split at h
   · rename_i A n c es hx he
     have fin : ∀ (l hh : Nat) (v : Value), (match lo.map a.eval with | none => l = 0 | some v => ∃ k, v = .int k (l : Int)) → (match hi.map a.eval with | none => hh = n | some v => ∃ k, v = .int k (hh : Int)) → l ≤ hh → hh ≤ c → v = .slice (if c = l then A else A.map (·.add (l * es))) (hh - l) (c - l) → K v → ∃ v, Yl P o a S v ∧ K v := fun l hh v e1 e2 e3 e4 e5 hk => by
       refine ⟨v, fun W _ => ?_, hk⟩
       unfold execOp; rw [ho]; dsimp only; rw [ha _ _ hx, e5]
       exact run_v (run_sliceAt hT he A n c l hh _ _ e1 e2 e3 e4 W)
     split at h
     · rename_i e1 e2
       obtain ⟨l, hh, g1, g2, g3, g4, hk⟩ := h.ok
       have : lo = none := by cases lo <;> simp at e1 ⊢
       subst this
       have : hi = none := by cases hi <;> simp at e2 ⊢
       subst this
       exact fin l hh _ (by show l = 0; omega) (by show hh = n; omega) g3 g4 rfl hk
     · rename_i k l0 e1 e2
       obtain ⟨l, hh, g1, g2, g3, g4, hk⟩ := h.ok
       have : hi = none := by cases hi <;> simp at e2 ⊢
       subst this
       cases lo with
       | none => simp at e1
       | some y =>
         simp at e1
         exact fin l hh _ ⟨k, by rw [ha _ _ e1, g1]⟩ (by show hh = n; omega) g3 g4 rfl hk
     · rename_i k h0 e1 e2
       obtain ⟨l, hh, g1, g2, g3, g4, hk⟩ := h.ok
       have : lo = none := by cases lo <;> simp at e1 ⊢
       subst this
       cases hi with
       | none => simp at e2
       | some y =>
         simp at e2
         exact fin l hh _ (by show l = 0; omega) ⟨k, by rw [ha _ _ e2, g2]⟩ g3 g4 rfl hk
     · rename_i k1 l0 k2 h0 e1 e2
       obtain ⟨l, hh, g1, g2, g3, g4, hk⟩ := h.ok
       cases lo with
       | none => simp at e1
       | some y =>
         cases hi with
         | none => simp at e2
         | some z =>
           simp at e1 e2
           exact fin l hh _ ⟨k1, by rw [ha _ _ e1, g1]⟩ ⟨k2, by rw [ha _ _ e2, g2]⟩ g3 g4 rfl hk
     · exact h.elim
   · exact vq h
 · rename_i c ho
   split at h
   · rename_i x hl
     split at h
     · rename_i A n cp hx
       split at h
       · rename_i es he
         cases ht : c.argTypes.toList.head? with
         | none => rw [ht] at he; simp at he
         | some t =>
           rw [ht] at he
           simp at he
           exact ⟨_, fun W _ => by
             obtain ⟨callee, args, ats⟩ := c
             unfold plainBE at hp
             rw [ho] at hp
             cases callee <;> first | (simp at hp; done) | skip
             rename_i bi
             cases bi <;> first | (simp at hp; done) | skip
             unfold execOp; rw [ho]
             dsimp only
             simp only [resolve, invoke, builtin, Sem.run_bind, Sem.run_pure, Result.andThen_ok]
             rw [fevs1 ha hx hl, run_len hT he ats ht]
             rfl, h⟩
       · exact vq h
     · exact vq h
   · exact vq h
 · exact vq h
theorem wp_of_run {o : Oper} {a : Act} {w w' : World} {v : Value} {next : Act → World → Prop} {Q : Exit → Act → World → Prop} (h : (execOp a.eval o).run P w = .ok (.value v) w') (hn : next (a.put o.dst v) w') : o.wp P a w next Q := by
 unfold Oper.wp; rw [h]; exact hn
theorem call_ok (hT : TabOk P T) {o : Oper} {c : Call} {fr : Fr} {a : Act} {w : World} {K : Value → World → Prop} (ho : o.op = .call c) (ha : AgE fr a) (h : callV T P o c fr w K) (Q : Exit → Act → World → Prop) (next : Act → World → Prop) (hn : ∀ v w', K v w' → next (a.put o.dst v) w') : o.wp P a w next Q := by
 have vw : VW P o fr w K → o.wp P a w next Q := fun h => by
   cases h with
   | mk h => exact h a ha Q next hn
 unfold callV at h
 split at h
 · rename_i f hc
   split at h
   · rename_i g first cap hf
     split at h
     · rename_i vs hv
       split at h
       · exact vw h
       · rename_i hb
         cases h with
         | mk R hcall hk =>
           have hm : (execOp a.eval o).run P w = .ok (.enter g (first ++ vs.toArray ++ cap)) w := by
             have hg : g < P.funcs.size := by
               obtain ⟨e, w', fr', hR, hs, hfr, hl⟩ := hcall []
               cases e with
               | returned v => obtain ⟨_, _, _, fn, hfn, _⟩ := hl; rw [hfr] at hfn; exact (Array.getElem?_eq_some_iff.1 hfn).1
               | panicked ch => obtain ⟨_, _, fn, hfn⟩ := hl; rw [hfr] at hfn; exact (Array.getElem?_eq_some_iff.1 hfn).1
               | outgrown =>
                 exfalso
                 obtain ⟨v, hv, _⟩ := hk _ _ hR
                 cases hv
             have h1 := List.all_eq_true.1 hT.fn g (by simpa using hg)
             unfold chkFn at h1
             rw [hb, Bool.false_or] at h1
             split at h1
             · rename_i fn hfn
               simp only [Bool.and_eq_true, Bool.not_eq_true'] at h1
               obtain ⟨hname, hbody⟩ := h1
               unfold execOp; rw [ho]
               dsimp only
               have hargs : c.args.map a.eval = vs.toArray := by
                 apply Array.ext'
                 rw [Array.toList_map, ha.evs hv]
               have hbody' : fn.body.isNone = false := by rw [Option.isNone_eq_false_iff]; exact hbody
               simp only [resolve, hc, ha _ _ hf, Deferred.ofValue, Sem.run_bind, Sem.run_pure, Result.andThen_ok, invoke, callFunc, run_program, hfn, hname, hbody', hargs, Bool.false_eq_true, if_false]
             · cases h1
           unfold Oper.wp
           rw [hm]
           refine Calls.mono hcall fun e w' hR => ?_
           obtain ⟨v, rfl, hv2⟩ := hk e w' hR
           exact hn v w' hv2
     · exact h.elim
   · exact vw h
 · rename_i b hc
   split at h
   · split at h
     · rename_i vs hv
       cases h with
       | mk v w' hr hk =>
         refine wp_of_run ?_ (hn _ _ hk)
         have hargs : c.args.map a.eval = vs.toArray := by
           apply Array.ext'
           rw [Array.toList_map, ha.evs hv]
         unfold execOp; rw [ho]
         dsimp only
         simp only [resolve, hc, Sem.run_bind, Sem.run_pure, Result.andThen_ok, invoke, builtin, hargs, hr]
     · exact h.elim
   · exact vw h
 · exact vw h
theorem ev_ok (hT : TabOk P T) {o : Oper} {fr : Fr} {a : Act} {w : World} {K : Value → World → Prop} (ha : AgE fr a) (h : ev T P o fr w K) (Q : Exit → Act → World → Prop) (next : Act → World → Prop) (hn : ∀ v w', K v w' → next (a.put o.dst v) w') : o.wp P a w next Q := by
 have vw : VW P o fr w K → o.wp P a w next Q := fun h => by
   cases h with
   | mk h => exact h a ha Q next hn
 unfold ev at h
 split at h
 · rename_i ty x y ho
   split at h
   · rename_i b off v hx hy
     cases h with
     | mk w' hs hk =>
       unfold Oper.wp execOp
       rw [ho]
       dsimp only
       rw [ha _ _ hx, ha _ _ hy]
       simp only [Instr.storeAt, Instr.sureAddr, Sem.run_bind, Sem.run_pure, Result.andThen_ok, hs]
       exact hn _ _ hk
   · exact h.elim
 · rename_i t x ho
   obtain ⟨v, hv, hk⟩ := withV_ok h
   cases hk with
   | mk h =>
     refine wp_of_run (w' := w.alloc (.cells v.cells t)) ?_ (hn _ _ (h _ (Lib.hid rfl)))
     unfold execOp; rw [ho]; dsimp only; rw [ha _ _ hv]
     refine run_v ?_
     simp only [Instr.box, newVar, newRow, Sem.run_bind, run_newObj_alloc, Result.andThen_ok, Sem.run_pure]
 · rename_i t ho
   cases h with
   | mk v hz hk =>
     cases hk with
     | mk h =>
       refine wp_of_run (w' := w.alloc (.cells v.cells t)) ?_ (hn _ _ (h _ (Lib.hid rfl)))
       unfold execOp; rw [ho]; dsimp only
       refine run_v ?_
       simp only [Instr.alloc, newVar, newRow, Sem.run_bind, hz, run_newObj_alloc, Result.andThen_ok, Sem.run_pure]
 · rename_i c ho
   exact call_ok hT ho ha h Q next hn
 · rename_i t n ps ho
   split at h
   · rename_i l hl
     cases h with
     | mk v w' hr hk =>
       refine wp_of_run ?_ (hn _ _ hk)
       unfold execOp; rw [ho]; dsimp only
       refine run_v ?_
       have : (ps.map fun p => (p.1, a.eval p.2)) = l.toArray := by
         apply Array.ext'
         rw [Array.toList_map, ← ha.evp hl]
       rw [← hr, ← this]
   · exact h.elim
 · exact vw h
def Lift (D : List Deferred) (n : Nat) (Qf : Exit → Fr → World → Prop) : Exit → Act → World → Prop := fun e a w => ∃ fr, RepE D n fr a ∧ Qf e fr w
theorem gd_ok {n : Nat} {l : List Oper} {fr : Fr} {a : Act} {o : Oper} {run skip : Prop} (h : gd n l fr o run skip) (hr : RepE D n fr a) : (Region.wanted o (yielded l.toArray a.tmps) = true ∧ run) ∨ (Region.wanted o (yielded l.toArray a.tmps) = false ∧ skip) := by
 unfold gd at h
 split at h
 · rename_i hg
   exact .inl ⟨by simp [Region.wanted, hg], h⟩
 · rename_i j want hg
   have hw : ∀ y, yielded l.toArray a.tmps j = y → Region.wanted o (yielded l.toArray a.tmps) = (y == some want) := fun y e => by simp [Region.wanted, hg, e]
   split at h
   · rename_i hn
     rw [nth_eq] at hn
     exact .inr ⟨by rw [hw none (by simp [yielded, hn])]; rfl, h⟩
   · rename_i oj hj
     rw [nth_eq] at hj
     have hj' : l.toArray[j]? = some oj := by simpa using hj
     split at h
     · rename_i hd
       exact .inr ⟨by rw [hw none (by simp [yielded, hj, hd])]; rfl, h⟩
     · rename_i d hd
       split at h
       · exact h.elim
       · rename_i hlt
         have hlt' : d < a.tmps.size := by rw [hr.s]; simpa using hlt
         split at h
         · rename_i t hv
           have hv' := hr.g _ _ hv
           have e : yielded l.toArray a.tmps j = some t := by
             simp [yielded, hj, hd, Array.getElem?_eq_getElem hlt']
             rw [Array.getD_eq_getD_getElem?, Array.getElem?_eq_getElem hlt'] at hv'
             simp at hv'; rw [hv']
           rw [hw _ e]
           cases t <;> cases want <;> first | exact .inl ⟨rfl, h⟩ | exact .inr ⟨rfl, h⟩
         · rename_i vs hv
           have hv' := hr.g _ _ hv
           have e : yielded l.toArray a.tmps j = none := by
             simp [yielded, hj, hd, Array.getElem?_eq_getElem hlt']
             rw [Array.getD_eq_getD_getElem?, Array.getElem?_eq_getElem hlt'] at hv'
             simp at hv'; rw [hv']
           exact .inr ⟨by rw [hw _ e]; rfl, h⟩
         · exact h.elim
theorem rv_ok (hT : TabOk P T) {o : Oper} {fr : Fr} {a : Act} {w : World} {K : Value → World → Prop} (ha : AgE fr a) (h : rv T P o fr w K) (Q : Exit → Act → World → Prop) (next : Act → World → Prop) (hn : ∀ v w', K v w' → next (a.put o.dst v) w') : o.wp P a w next Q := by
 unfold rv at h
 split at h
 · rename_i hp
   obtain ⟨v, hv, hk⟩ := qv_ok hT hp ha h
   exact wp_of_run (hv w rfl) (hn _ _ hk)
 · exact ev_ok hT ha h Q next hn
theorem vcOps_ok (hT : TabOk P T) {n : Nat} {l0 : List Oper} {Q : Exit → Act → World → Prop} : ∀ {l : List Oper} {fr : Fr} {a : Act} {w : World} {K : Fr → World → Prop}, vcOps T P n l0 l fr w K → RepE D n fr a → (∀ fr' a' w', RepE D n fr' a' → K fr' w' → Q .normal a' w') → wpList P l0.toArray Q l a w
 | [], fr, a, w, K, h, hr, hq => hq _ _ _ hr h
 | o :: r, fr, a, w, K, h, hr, hq => by
   unfold vcOps at h
   unfold wpList
   rcases gd_ok h hr with ⟨hw, h⟩ | ⟨hw, h⟩
   · rw [if_pos hw]
     refine .inl (rv_ok hT hr.ag h _ _ fun v w' hk => ?_)
     obtain ⟨fr', hr', hk'⟩ := putK_ok hk hr
     exact vcOps_ok hT hk' hr' hq
   · rw [if_neg (by simp [hw])]
     obtain ⟨fr', hr', hk'⟩ := putK_ok h hr
     exact vcOps_ok hT hk' hr' hq
theorem vcQ_ok (hT : TabOk P T) {n : Nat} {l0 : List Oper} {S : World → Prop} {Qa : Act → Prop} : ∀ {l : List Oper} {fr : Fr} {a : Act} {K : Fr → Prop}, (∀ o ∈ l, plainBE o = true) → vcQ T P n l0 S l fr K → RepE D n fr a → (∀ fr' a', RepE D n fr' a' → K fr' → Qa a') → wpQuiet P l0.toArray S Qa l a
 | [], fr, a, K, _, h, hr, hq => hq _ _ hr h
 | o :: r, fr, a, K, hp, h, hr, hq => by
   unfold vcQ at h
   unfold wpQuiet
   have hpr : ∀ o ∈ r, plainBE o = true := fun o ho => hp o (List.mem_cons_of_mem _ ho)
   rcases gd_ok h hr with ⟨hw, h⟩ | ⟨hw, h⟩
   · rw [if_pos hw]
     obtain ⟨v, hv, hk⟩ := qv_ok hT (hp o (List.mem_cons_self ..)) hr.ag h
     obtain ⟨fr', hr', hk'⟩ := putK_ok hk hr
     exact ⟨v, fun W hW => by unfold Oper.quietAt; rw [hv W hW]; exact ⟨rfl, rfl⟩, vcQ_ok hT hpr hk' hr' hq⟩
   · rw [if_neg (by simp [hw])]
     obtain ⟨fr', hr', hk'⟩ := putK_ok h hr
     exact vcQ_ok hT hpr hk' hr' hq
theorem vcWO_ok (hT : TabOk P T) {n : Nat} {l : List Oper} {z : Nat} {S : World → Prop} {last : List Nat} {Q : Exit → Act → World → Prop} (hl : ∀ o ∈ picksE l last, plainBE o = true) : ∀ {segs : List (List Nat × Nat)} {fr : Fr} {a : Act} {w : World} {K : Fr → World → Prop}, (∀ p ∈ segs, ∀ o ∈ picksE l p.1, plainBE o = true) → vcWO T P n l z S last segs fr w K → RepE D n fr a → (∀ fr' a' w', RepE D n fr' a' → K fr' w' → Q .normal a' w') → woDE P l z S Q last segs a w
 | [], fr, a, w, K, hb, h, hr, hq => by
   unfold vcWO at h
   unfold woDE
   unfold kF at h
   exact vcQ_ok hT hl h hr fun fr' a' hr' hk => hq _ _ _ hr' hk
 | (is, i) :: r, fr, a, w, K, hb, h, hr, hq => by
   unfold vcWO at h
   unfold woDE
   · refine vcQ_ok hT (hb (is, i) (List.mem_cons_self ..)) h hr fun fr' a' hr' hk o ho => ?_
     unfold kWO at hk
     have hb3 : ∀ p ∈ r, ∀ o ∈ picksE l p.1, plainBE o = true := fun p hp => hb p (List.mem_cons_of_mem _ hp)
     split at hk
     · exact hk.elim
     · rename_i o' ho'
       rw [nth_eq] at ho'
       have := pick_ofE ho'
       rw [ho] at this
       have : o = o' := by simpa using this
       subst this
       rcases gd_ok hk hr' with ⟨hw, hk⟩ | ⟨hw, hk⟩
       · rw [if_pos hw]
         refine rv_ok hT hr'.ag hk _ _ fun v w' hv => ?_
         cases hv with
         | mk hS hv =>
           obtain ⟨fr2, hr2, hk2⟩ := putK_ok hv hr'
           exact ⟨.inr hS, vcWO_ok hT hl hb3 hk2 hr2 hq⟩
         | last hz hv =>
           obtain ⟨fr2, hr2, hk2⟩ := putK_ok hv hr'
           exact ⟨.inl hz, vcWO_ok hT hl hb3 hk2 hr2 hq⟩
       · rw [if_neg (by simp [hw])]
         cases hk with
         | mk hS hv =>
           obtain ⟨fr2, hr2, hk2⟩ := putK_ok hv hr'
           exact vcWO_ok hT hl hb3 hk2 hr2 hq
         | last hz hv =>
           obtain ⟨fr2, hr2, hk2⟩ := putK_ok hv hr'
           exact vcWO_ok hT hl hb3 hk2 hr2 hq
theorem kWO_ok (hT : TabOk P T) {n : Nat} {l : List Oper} {i z : Nat} {S : World → Prop} {Q : Exit → Act → World → Prop} {next : Fr → World → (Fr → World → Prop) → Prop} {fr : Fr} {a : Act} {w : World} {K : Fr → World → Prop} {G : Act → World → Prop}
   (hk : kWO T P n l i z S w next K fr) (hr' : RepE D n fr a) (ih : ∀ fr2 a2 w2, next fr2 w2 K → RepE D n fr2 a2 → G a2 w2) : opPE P l z S Q i w G a := fun o ho => by
 unfold kWO at hk
 split at hk
 · exact hk.elim
 · rename_i o' ho'
   rw [nth_eq] at ho'
   have := pick_ofE ho'
   rw [ho] at this
   have : o = o' := by simpa using this
   subst this
   rcases gd_ok hk hr' with ⟨hw, hk⟩ | ⟨hw, hk⟩
   · rw [if_pos hw]
     refine rv_ok hT hr'.ag hk _ _ fun v w' hv => ?_
     cases hv with
     | mk hS hv =>
       obtain ⟨fr2, hr2, hk2⟩ := putK_ok hv hr'
       exact ⟨.inr hS, ih _ _ _ hk2 hr2⟩
     | last hz hv =>
       obtain ⟨fr2, hr2, hk2⟩ := putK_ok hv hr'
       exact ⟨.inl hz, ih _ _ _ hk2 hr2⟩
   · rw [if_neg (by simp [hw])]
     cases hk with
     | mk hS hv =>
       obtain ⟨fr2, hr2, hk2⟩ := putK_ok hv hr'
       exact ih _ _ _ hk2 hr2
     | last hz hv =>
       obtain ⟨fr2, hr2, hk2⟩ := putK_ok hv hr'
       exact ih _ _ _ hk2 hr2
theorem vcPl_ok (hT : TabOk P T) {n : Nat} {l : List Oper} {z : Nat} {S : World → Prop} {Q : Exit → Act → World → Prop} {K : Fr → World → Prop} (hq : ∀ fr' a' w', RepE D n fr' a' → K fr' w' → Q .normal a' w') : ∀ (p : Pl) {fr : Fr} {a : Act} {w : World}, plPlain l p = true → vcPl T P n l z S p fr w K → RepE D n fr a → woPE P l z S Q p a w
 | .stop last, fr, a, w, hb, h, hr => by
   unfold vcPl at h
   unfold woPE
   unfold kF at h
   exact vcQ_ok hT (List.all_eq_true.1 hb) h hr fun fr' a' hr' hk => hq _ _ _ hr' hk
 | .one is i r, fr, a, w, hb, h, hr => by
   unfold vcPl at h
   unfold woPE
   unfold plPlain at hb
   rw [Bool.and_eq_true] at hb
   exact vcQ_ok hT (List.all_eq_true.1 hb.1) h hr fun fr' a' hr' hk => kWO_ok hT hk hr' fun fr2 a2 w2 hk2 hr2 => vcPl_ok hT hq r hb.2 hk2 hr2
 | .two is i r j q, fr, a, w, hb, h, hr => by
   unfold vcPl at h
   unfold woPE
   unfold plPlain at hb
   simp only [Bool.and_eq_true] at hb
   exact vcQ_ok hT (List.all_eq_true.1 hb.1.1) h hr fun fr' a' hr' hk => ⟨kWO_ok hT hk.1 hr' fun fr2 a2 w2 hk2 hr2 => vcPl_ok hT hq r hb.1.2 hk2 hr2, kWO_ok hT hk.2 hr' fun fr2 a2 w2 hk2 hr2 => vcPl_ok hT hq q hb.2 hk2 hr2⟩
 | .three is i r j q k t, fr, a, w, hb, h, hr => by
   unfold vcPl at h
   unfold woPE
   unfold plPlain at hb
   simp only [Bool.and_eq_true] at hb
   exact vcQ_ok hT (List.all_eq_true.1 hb.1.1.1) h hr fun fr' a' hr' hk => ⟨kWO_ok hT hk.1 hr' fun fr2 a2 w2 hk2 hr2 => vcPl_ok hT hq r hb.1.1.2 hk2 hr2, kWO_ok hT hk.2.1 hr' fun fr2 a2 w2 hk2 hr2 => vcPl_ok hT hq q hb.1.2 hk2 hr2, kWO_ok hT hk.2.2 hr' fun fr2 a2 w2 hk2 hr2 => vcPl_ok hT hq t hb.2 hk2 hr2⟩
theorem agr_ok {n : Nat} {fr : Fr} {a : Act} (hr : RepE D n fr a) : ∀ {f : Fr}, agr f fr → ∀ i v, aget f i = some v → a.tmps.getD i undef = v
 | [], _, i, v, h => by simp [aget] at h
 | (j, u) :: r, h, i, v, hi => by
   unfold aget at hi
   split at hi
   · rename_i e
     have e := Nat.eq_of_beq_eq_true e
     injection hi with hi; subst hi; subst e
     exact hr.g _ _ h.1
   · exact agr_ok hr h.2 i v hi
theorem RepE.agr {n : Nat} {fr f : Fr} {a : Act} (hr : RepE D n fr a) (h : agr f fr) : RepE D n f a := ⟨hr.d, hr.s, agr_ok hr h⟩
theorem vcC_ok (hT : TabOk P T) {n : Nat} : ∀ (c : Code) (fr : Fr) (a : Act) (w : World) (Q : Exit → Fr → World → Prop), vcC T P n c fr w Q → RepE D n fr a → c.wp P (Lift D n Q) a w := by
 intro c
 induction c with
 | skip => intro fr a w Q h hr; unfold vcC at h; exact wp_skip ⟨fr, hr, h⟩
 | region id ops draw =>
   intro fr a w Q h hr
   cases draw with
   | false =>
     unfold vcC at h
     exact wp_region_lit (vcOps_ok hT h hr fun fr' a' w' hr' hk => ⟨fr', hr', hk⟩)
   | true =>
     unfold vcC at h
     cases h with
     | mk z segs last S hB hn hS h =>
       unfold ordE at hB
       simp only [Bool.and_eq_true, Bool.or_eq_true] at hB
       obtain ⟨⟨hB, h1⟩, h2⟩ := hB
       have hl : ∀ o ∈ picksE ops.toList last, plainBE o = true := List.all_eq_true.1 h2
       have hs : ∀ p ∈ segs, ∀ o ∈ picksE ops.toList p.1, plainBE o = true := fun p hp => List.all_eq_true.1 (List.all_eq_true.1 h1 p hp)
       rcases hB with hB | hB
       · exact wp_region_ordzE z segs last S hT.mo hB hn hS ⟨vcWO_ok hT hl hs h hr fun fr' a' w' hr' hk => ⟨fr', hr', hk⟩⟩
       · exact wp_region_ordtE z segs last S hT.mo hB hn hS ⟨vcWO_ok hT hl hs h hr fun fr' a' w' hr' hk => ⟨fr', hr', hk⟩⟩
     | esc h => exact h D a _ _ hr fun fr' a' w' hr' hk => ⟨fr', hr', hk⟩
     | pl z p S hB hS h =>
       simp only [Bool.and_eq_true] at hB
       exact wp_region_plE z p S hT.mo hB.1 hS (vcPl_ok hT (fun fr' a' w' hr' hk => ⟨fr', hr', hk⟩) p hB.2 h hr)
 | seq x y ihx ihy =>
   intro fr a w Q h hr
   unfold vcC at h
   refine wp_seq (wp_mono (ihx fr a w _ h hr) fun e a' w' hq => ?_)
   obtain ⟨fr', hr', hq⟩ := hq
   unfold kSeq at hq
   cases e with
   | normal => exact ihy fr' a' w' Q hq hr'
   | exit id => exact ⟨fr', hr', hq⟩
   | goto l => exact ⟨fr', hr', hq⟩
   | ret => exact ⟨fr', hr', hq⟩
   | panic ch => exact ⟨fr', hr', hq⟩
   | outgrown => exact ⟨fr', hr', hq⟩
 | cond c x y ihx ihy =>
   intro fr a w Q h hr
   unfold vcC at h
   split at h
   · rename_i t hc
     cases t with
     | true => exact wp_cond_true (hr.ag _ _ hc) (ihx fr a w Q h hr)
     | false => exact wp_cond_false (hr.ag _ _ hc) (ihy fr a w Q h hr)
   · exact h.elim
 | block id c ih =>
   intro fr a w Q h hr
   unfold vcC at h
   refine wp_block (wp_mono (ih fr a w _ h hr) fun e a' w' hq => ?_)
   obtain ⟨fr', hr', hq⟩ := hq
   unfold kBlk at hq
   cases e with
   | normal => exact ⟨fr', hr', hq⟩
   | exit id' =>
     dsimp only at hq
     unfold Exit.inBlock
     by_cases hid : id' = id
     · subst hid
       rw [show Nat.beq id' id' = true by simp] at hq
       dsimp only
       rw [if_pos rfl]
       exact ⟨fr', hr', hq⟩
     · rw [show Nat.beq id' id = false by cases hb : Nat.beq id' id with | false => rfl | true => exact absurd (Nat.eq_of_beq_eq_true hb) hid] at hq
       dsimp only
       rw [if_neg hid]
       exact ⟨fr', hr', hq⟩
   | goto l => exact ⟨fr', hr', hq⟩
   | ret => exact ⟨fr', hr', hq⟩
   | panic ch => exact ⟨fr', hr', hq⟩
   | outgrown => exact ⟨fr', hr', hq⟩
 | loop c ih =>
   intro fr a w Q h hr
   unfold vcC at h
   cases h with
   | mk σ F I μ s0 hF h0 hround =>
     refine wp_loop_ghost (fun m a w => ∃ s, μ s = m ∧ RepE D n (F s) a ∧ I s w) (μ s0) ⟨s0, rfl, hr.agr hF, h0⟩ ?_
     rintro m a w ⟨s, rfl, hrs, hI⟩
     refine wp_mono (ih (F s) a w _ (hround s w hI) hrs) fun e a' w' hq => ?_
     obtain ⟨fr', hr', hq⟩ := hq
     unfold kLoop at hq
     cases e with
     | normal =>
       cases hq with
       | mk s' hF' hI' hm => exact ⟨μ s', hm, s', rfl, hr'.agr hF', hI'⟩
     | exit id => exact ⟨fr', hr', hq⟩
     | goto l => exact ⟨fr', hr', hq⟩
     | ret => exact ⟨fr', hr', hq⟩
     | panic ch => exact ⟨fr', hr', hq⟩
     | outgrown => exact ⟨fr', hr', hq⟩
 | exit id => intro fr a w Q h hr; unfold vcC at h; exact wp_exit ⟨fr, hr, h⟩
 | ret => intro fr a w Q h hr; unfold vcC at h; exact wp_ret ⟨fr, hr, h⟩
 | _ => intro fr a w Q h hr; unfold vcC at h; exact h.elim
theorem frI_get : ∀ (l : List Value) (k i : Nat) (v : Value), aget (frI k l) i = some v → k ≤ i ∧ l[i - k]? = some v
 | [], k, i, v, h => by simp [frI, aget] at h
 | u :: r, k, i, v, h => by
   unfold frI aget at h
   split at h
   · rename_i e
     have e := Nat.eq_of_beq_eq_true e
     injection h with h; subst h; subst e
     simp
   · have := frI_get r (k + 1) i v h
     refine ⟨by omega, ?_⟩
     rw [show i - k = (i - (k + 1)) + 1 by omega]
     simpa using this.2
def resOf (tmps : Array Value) : ResultVar → Sem Value
 | .tmp t => pure (tmps.getD t undef)
 | .cell x t => do loadVar t (← asAddr (tmps.getD x undef))
theorem results_eq (fn : Func) (tmps : Array Value) : results fn tmps = (do
   let vs ← fn.results.mapM (resOf tmps)
   pure (if h : vs.size = 1 then vs[0] else .tuple vs)) := by
 have e : resOf tmps = (fun | .tmp t => pure (tmps.getD t undef) | .cell a t => do loadVar t (← asAddr (tmps.getD a undef))) := by
   funext r; cases r <;> rfl
 rw [e]; rfl
theorem res_ok {fr : Fr} {n : Nat} {a : Act} {w : World} (hr : RepE D n fr a) : ∀ {l : List ResultVar} {K : List Value → Prop}, vcRes P l fr w K → ∃ vs, K vs ∧ (l.mapM (resOf a.tmps)).run P w = .ok vs w
 | [], K, h => ⟨[], h, rfl⟩
 | .tmp t :: r, K, h => by
   unfold vcRes at h
   obtain ⟨v, hv, hk⟩ := withV_ok h
   obtain ⟨vs, h1, h2⟩ := res_ok hr hk
   refine ⟨v :: vs, h1, ?_⟩
   rw [List.mapM_cons, Sem.run_bind, resOf, hr.g _ _ hv]
   simp only [Sem.run_pure, Result.andThen_ok, Sem.run_bind, h2]
 | .cell x t :: r, K, h => by
   unfold vcRes at h
   split at h
   · rename_i b off hx
     cases h with
     | mk v hl hk =>
       obtain ⟨vs, h1, h2⟩ := res_ok hr hk
       refine ⟨v :: vs, h1, ?_⟩
       rw [List.mapM_cons, Sem.run_bind, resOf, hr.g _ _ hx]
       simp only [Sem.run_bind, asAddr, Sem.run_pure, Result.andThen_ok, hl.out w rfl, h2]
   · exact h.elim
theorem one_eq (vs : Array Value) : (if h : vs.size = 1 then vs[0] else .tuple vs) = oneV vs.toList := by
 obtain ⟨l⟩ := vs
 match l with
 | [] => rfl
 | [v] => rfl
 | a :: b :: r => simp [oneV]
theorem calls_vc (hT : tabB P T = true) {f : FuncId} {fn : Func} {args : List Value} {w : World} {R : Ending → World → Prop} (hf : P.funcs[f]? = some fn) (hn : Nat.ble args.length fn.ntmps = true) (h : vcF T P fn args w R) : Calls P f args.toArray w R := by
 have hT := tab_of hT
 unfold vcF at h
 split at h
 · rename_i c hb
   refine calls_of_wp hf hb (wp_mono (vcC_ok hT c _ _ w _ h ⟨rfl, ?_, ?_⟩) fun e a' w' hq => ?_)
   · have := Nat.le_of_ble_eq_true hn
     simp; omega
   · intro i v hi
     obtain ⟨_, h2⟩ := frI_get _ _ _ _ hi
     rw [Nat.sub_zero] at h2
     have hl := (List.getElem?_eq_some_iff.1 h2).1
     rw [Array.getD_eq_getD_getElem?, Array.getElem?_append_left (by simpa using hl)]
     simp [h2]
   · obtain ⟨fr', hr', hq⟩ := hq
     unfold kEnd at hq
     have fin : vcRes P fn.results.toList fr' w' (kDone R w') → a'.defers = [] ∧ ∃ v, (results fn a'.tmps).run P w' = .ok v w' ∧ R (.returned v) w' := fun h => by
       obtain ⟨vs, hk, hv⟩ := res_ok hr' h
       cases hk with
       | mk hk =>
         refine ⟨hr'.d, _, ?_, hk⟩
         rw [results_eq, Sem.run_bind, Array.mapM_eq_mapM_toList]
         have : (List.toArray <$> List.mapM (resOf a'.tmps) fn.results.toList : Sem (Array Value)).run P w' = .ok vs.toArray w' := by
           rw [map_eq_pure_bind, Sem.run_bind, hv]; rfl
         rw [this]
         simp only [Result.andThen_ok, Sem.run_pure, one_eq]
     cases e with
     | normal => exact fin hq
     | ret => exact fin hq
     | exit id => exact hq.elim
     | goto l => exact hq.elim
     | panic ch => exact hq.elim
     | outgrown => exact hq.elim
 · exact h.elim
end
theorem Xt {p : Prop} {K : Bool → Prop} (hk : K true) (h : p := by omega) : VCmp p K := .tt h hk
theorem Xq {p : Prop} {K : Bool → Prop} (hk : K false) (h : ¬ p := by omega) : VCmp p K := .ff h hk
theorem Xn {n : Int} {K : Value → Prop} (hk : K (.int .i64 n)) (h : -9223372036854775808 ≤ n ∧ n ≤ 9223372036854775807 := by omega) : VIn .i64 n K := .mk (IntWalk.i64_in _ h) hk
theorem Xj {j n : Nat} {K : Nat → Prop} (hk : K j) (h : j < n := by omega) : VIdx (j : Int) n K := .mk j rfl h hk
theorem Xo {n : Nat} {K : Nat → Prop} (hk : K 0) (h : 0 < n := by omega) : VIdx 0 n K := .mk 0 rfl h hk
theorem Xl {P : Program} {ty : TypeId} {b off : Nat} {S : World → Prop} {v : Value} {K : Value → Prop} (h : Ld P ty b off S v) (hk : K v) : VLoad P ty b off S K := .mk _ h hk
end Go.Proofs.YtoilipfgimcoiaaGreat
