/-
  One operation of a region, on the machine: what the abstract run says comes about. The check of whole code.
-/
import Derived.Test.YtbhgncfbljkdgaaA14
import Derived.RangeFuncIn
import Derived.RangeFuncLeaves
namespace Go.Proofs.Ytbhgncfbljkdgaa.AI
open Go

/-! ### The check of code -/

def dstOK (N : Nat) : Option Nat → Bool
  | none => true
  | some d => Nat.blt d N

def chkGuard (ops : List Oper) : Option (Nat × Bool) → Option (Nat × Bool) → Bool
  | none, none => true
  | some (j, x), some (t, y) => (x == y) && (match ops[j]? with | some o => optNatBeq o.dst (some t) | none => false)
  | _, _ => false

def chkOper (P : Program) (N : Nat) (all : List Oper) (o : Oper) (a : AOper) : Bool :=
  optNatBeq o.dst a.dst && dstOK N a.dst && chkGuard all o.guard a.guard && chkOp P o.op a.op

def chkOpers (P : Program) (N : Nat) (all : List Oper) : List Oper → List AOper → Bool
  | [], [] => true
  | o :: os, a :: as => chkOper P N all o a && chkOpers P N all os as
  | _, _ => false

def isSeq : Cls → Bool
  | .seq => true
  | _ => false

/-- operations that make no memory, and do not look at it but by a load of one place -/
def pureKind : AOp → Bool
  | .move .. | .pick .. | .build .. | .load .. | .nilCheck .. | .bin .. | .eqFlat .. | .nilEq .. | .un .. | .convInt .. | .convId .. | .makeFunc .. | .slice .. | .fieldAddr .. | .field .. | .indexAddr .. | .indexStr .. | .indexArr .. | .extract .. | .minmax .. => true
  | .len .map _ => false
  | .len .. => true
  | _ => false

/-- operations that do not look at memory -/
def stillKind : AOp → Bool
  | .load .. | .slice .. => false
  | op => pureKind op

def isStill (a : AOper) : Bool := match a.cls with | .still => true | _ => false

/-- operations that only look at objects that their operands point to -/
def rdKind : AOp → Bool
  | .load .. | .lookup .. | .len .map _ => true
  | _ => false

def makeKind : AOp → Bool
  | .alloc .. | .box .. | .buildSlice .. | .convBytes .. | .makeMap | .makeSlice .. => true
  | _ => false

def maskOf (acc : List Nat) (o : Oper) : Nat :=
  o.after.toList.foldl (fun m e => if Region.binds .any e && Nat.blt e.on acc.length then m ||| (2 ^ e.on ||| acc.getD e.on 0) else m) 0

def masks : List Oper → List Nat → List Nat
  | [], acc => acc
  | o :: os, acc => masks os (acc ++ [maskOf acc o])

def tmpOf : AOpd → List Nat
  | .tmp t => [t]
  | _ => []

/-- the temporaries that an operation looks at -/
def looks (a : AOper) : List Nat := (opds a.op).flatMap tmpOf ++ (match a.guard with | some (t, _) => [t] | none => [])

def dstIn (a : AOper) (l : List Nat) : Bool := match a.dst with | some d => l.any (Nat.beq d) | none => false

def mayMake (a : AOper) : Bool := match a.cls with | .still | .rd => false | _ => true
def touches (a : AOper) : Bool := match a.cls with | .still | .mk => false | _ => true
def changes (a : AOper) : Bool := match a.cls with | .on | .rw | .seq => true | _ => false

/-- must two operations that no order ties be held against each other as the run goes? -/
def needDyn (a b : AOper) : Bool := (mayMake a && touches b) || ((changes a || changes b) && touches a && touches b)

def isRd (a : AOper) : Bool := match a.cls with | .rd => true | _ => false
def isOnRw (a : AOper) : Bool := match a.cls with | .on | .rw => true | _ => false

def pairOK (anc : Bool) (d : Nat) (a b : AOper) : Bool :=
  (match a.dst, b.dst with | some x, some y => !Nat.beq x y | _, _ => true) &&
  (anc || (!dstIn a (looks b) && !dstIn b (looks a) && (!isSeq a.cls || isStill b) && (!isSeq b.cls || isStill a) &&
    (isStill a || isStill b || !needDyn a b || b.par.any (Nat.beq d) || (isRd a && isOnRw b && b.chk.any (Nat.beq d)))))

def kindOK (a : AOper) : Bool := match a.cls with
  | .still => stillKind a.op
  | .rd => rdKind a.op
  | .mk => makeKind a.op || (match a.op with | .slice .. => true | _ => false)
  | _ => true

def chkDraw (ops : List Oper) (as : List AOper) : Bool :=
  as.all kindOK && Nat.beq as.length ops.length &&
  ((List.range ops.length).all fun i => match ops[i]? with | some o => o.after.toList.all fun e => !Region.binds .any e || Nat.blt e.on i | none => true) &&
  (List.range as.length).all fun j => (List.range j).all fun i =>
    match as[i]?, as[j]? with
    | some a, some b => pairOK (((masks ops []).getD j 0).testBit i) (j - 1 - i) a b
    | _, _ => true

def chkOperand (c : Operand) (c' : AOpd) : Bool := chkOpd c c'

def chkTmps (N : Nat) : List Nat → List Nat → Bool
  | [], [] => true
  | x :: xs, y :: ys => Nat.beq x y && Nat.blt x N && chkTmps N xs ys
  | _, _ => false

def chkCode (P : Program) (N : Nat) : ACode → Code → Bool
  | .keep _ c, d => chkCode P N c d
  | .gc _ c, d => chkCode P N c d
  | .skip, .skip => true
  | .skip, .label _ => true
  | .scope a, .scope x => chkCode P N a x
  | .region as, .region _ ops draw => chkOpers P N ops.toList ops.toList as && (if draw then chkDraw ops.toList as else as.all fun a => isSeq a.cls)
  | .seq a b, .seq x y => chkCode P N a x && chkCode P N b y
  | .cond c a b, .cond d x y => chkOpd d c && chkCode P N a x && chkCode P N b y
  | .block id a, .block id' x => Nat.beq id id' && chkCode P N a x
  | .loop a, .loop x => chkCode P N a x
  | .rangeFunc f ps as bd, .rangeFunc g qs x y => chkOpd g f && chkTmps N qs.toList ps && chkCode P N as x && chkCode P N bd y
  | .exit id, .exit id' => Nat.beq id id'
  | .ret, .ret => true
  | _, _ => false

/-- which code an abstract code stands for -/
def St0 (P : Program) : Stands := fun N a c => chkCode P N a c = true

/-! ### What is to be shown of calls -/

variable {P : Program}

abbrev R (P : Program) := Rel (St0 P)
abbrev X (P : Program) := Ext (St0 P)

/-- all ids that are in use lie below the next one -/
def Dom (h : Heap) (n : Nat) : Prop := ∀ id o, h.get id = some o → id < n

theorem Dom.good {h h' : Heap} {n n' : Nat} (d : Dom h n) (g : Good h n h' n') : Dom h' n' := fun id o e => by
  have := g.nle
  rcases g.dom id o e with ⟨o', e'⟩ | h
  · have := d id o' e'; omega
  · exact h.2

def SimCall (P : Program) (r : Rec) : Prop := ∀ {f args h n v h' n'}, r.call f args h n = some (v, h', n') → goFunc P f = true ∧ ∀ {ρ : Ren} {w : World} {args' : Array Value}, LR ρ args args'.toList → R P ρ h.get w → Dom h n → Fresh ρ n n' → ∀ cs,
  ∃ w' ρ' v' fr, Steps P (lone (Frame.enter P f args' .normal) cs w) (lone fr cs w') ∧ fr.fn = f ∧ fr.leaving P w' (.returned v') ∧ VR ρ' v v' ∧ X P ρ h.get n w ρ' h'.get n' w'

/-- what the caller of yield sees -/
def SimRound (P : Program) (r : Rec) : Prop := ∀ {l args h n v h' n'}, round r l args h n = some (v, h', n') → ∀ {ρ : Ren} {w : World} {args' : Array Value} {s : Slot}, ρ l = some s → LR ρ args args'.toList → R P ρ h.get w → Dom h n → Fresh ρ n n' → ∀ c cs,
  ∃ f tmps assign body w0 w' ρ' v', (Instr.yield s.b args').run P w = .ok (.round s.b f tmps assign body) w0 ∧ Steps P (lone (Frame.round s.b f tmps assign body .normal) (c :: cs) w0) (lone (c.finish v') cs w') ∧ VR ρ' v v' ∧ X P ρ h.get n w ρ' h'.get n' w'

section steps
variable {r : Rec} {ρ : Ren} {b : Frame} {a : Act} {k : List Item} {cs : List Frame} {w : World} {ops : Array Oper} {i : Nat} {rest : List Nat} {o : Oper}

theorem finish_at (ho : ops[i]? = some o) (v : Value) : (b.atR a (.inRegion ops (i :: rest) :: k)).finish v = b.atR (a.put o.dst v) (.inRegion ops rest :: k) := by
  rw [Frame.finish_atR, ho]; rfl

/-- an operation that yields a value at once -/
theorem step_val (ho : ops[i]? = some o) (hw : Region.wanted o (yielded ops a.tmps) = true) (hnd : ∀ c, o.op ≠ .defer c) {nx : Next} {v : Value} {w' : World} (hr : (execOp a.eval o).run P w = .ok nx w') (hy : Yields nx v) :
    step P (lone (b.atR a (.inRegion ops (i :: rest) :: k)) cs w) = .next (lone (b.atR (a.put o.dst v) (.inRegion ops rest :: k)) cs w') := by
  have hg := stepGR_op (P := P) (b := b) (k := k) (cs := cs) (w := w) (rest := rest) ho hw
  rw [Oper.semAt_eq _ _ _ hnd] at hg
  rcases hy with rfl | ⟨rfl, rfl⟩
  · exact step_lone_go (by rw [hg, ← finish_at ho]; simp [stepG.apply, hr])
  · exact step_lone_go (by rw [hg, ← finish_at ho]; simp [stepG.apply, hr])

theorem chkOp_nodefer {op : Op} {x : AOp} (hc : chkOp P op x = true) (hb : ∃ env h n v h' n', opx r env h n x = some (v, h', n')) : ∀ c, op ≠ .defer c := by
  intro c e
  subst e
  obtain ⟨env, h, n, v, h', n', hx⟩ := hb
  cases x <;> first | (cases hc; done) | (simp [opx, aop] at hx)

/-- one operation that is carried out -/
theorem oper_run (hcall : SimCall P r) (hround : SimRound P r) (ho : ops[i]? = some o) (hw : Region.wanted o (yielded ops a.tmps) = true) {x : AOp} (hc : chkOp P o.op x = true) {env : Env} (he : EnvR ρ env a.tmps)
    {h h' : Heap} {n n' : Nat} {v : Value} (hr : R P ρ h.get w) (hdm : Dom h n) (hf : Fresh ρ n n') (hx : opx r env h n x = some (v, h', n')) :
    ∃ v' w' ρ', Steps P (lone (b.atR a (.inRegion ops (i :: rest) :: k)) cs w) (lone (b.atR (a.put o.dst v') (.inRegion ops rest :: k)) cs w') ∧ VR ρ' v v' ∧ X P ρ h.get n w ρ' h'.get n' w' := by
  have hnd := chkOp_nodefer (r := r) hc ⟨_, _, _, _, _, _, hx⟩
  have hg := stepGR_op (P := P) (b := b) (k := k) (cs := cs) (w := w) (rest := rest) ho hw
  rw [Oper.semAt_eq _ _ _ hnd] at hg
  -- a call of a Go function
  have enter : ∀ {f : FuncId} {args : List Value} {args' : Array Value}, r.call f args h n = some (v, h', n') → LR ρ args args'.toList → (execOp a.eval o).run P w = .ok (.enter f args') w →
      ∃ v' w' ρ', Steps P (lone (b.atR a (.inRegion ops (i :: rest) :: k)) cs w) (lone (b.atR (a.put o.dst v') (.inRegion ops rest :: k)) cs w') ∧ VR ρ' v v' ∧ X P ρ h.get n w ρ' h'.get n' w' := by
    intro f args args' hcl hl hrun
    obtain ⟨w', ρ', v', fr, q1, q2, q3, q4, q5⟩ := (hcall hcl).2 hl hr hdm hf (b.atR a (.inRegion ops (i :: rest) :: k) :: cs)
    have henter : step P (lone (b.atR a (.inRegion ops (i :: rest) :: k)) cs w) = .next (lone (Frame.enter P f args' .normal) (b.atR a (.inRegion ops (i :: rest) :: k) :: cs) w) :=
      step_lone_go (by rw [hg]; simp [stepG.apply, hrun, Frame.atR])
    refine ⟨v', w', ρ', .head henter (q1.trans (.one ?_)), q4, q5⟩
    rw [← finish_at ho]; exact step_leave_returned q3
  -- which function is called
  have callee : ∀ {f : FuncId} {args' : Array Value} {c : Call}, o.op = .call c → (resolve a.eval c o.type).run P w = .ok { target := .fn (.func f) #[], args := args' } w → goFunc P f = true →
      (execOp a.eval o).run P w = .ok (.enter f args') w := by
    intro f args' c hop hres hfn
    unfold goFunc at hfn
    split at hfn
    · rename_i fn hfun
      simp only [Bool.and_eq_true] at hfn
      have h1 : (fn.name == "runtime.NumGoroutine") = false := by simpa using hfn.1
      have h2 : fn.body.isNone = false := by cases hb : fn.body <;> simp [hb] at hfn ⊢
      simp only [execOp, hop, Sem.run_bind, hres, Result.andThen_ok, invoke, callFunc, run_program, hfun, Array.append_empty]
      simp [h1, h2]
    · cases hfn
  cases x
  case call f cargs =>
    simp only [opx] at hx
    split at hx
    · rename_i vs hvs
      have hcc := hc
      cases hop : o.op with
      | call c =>
        rw [hop] at hcc
        obtain ⟨cal, args, ts⟩ := c
        cases cal with
        | value fo =>
          cases fo with
          | func g =>
            simp only [chkOp, Bool.and_eq_true] at hcc
            obtain ⟨⟨c1, c2⟩, c3⟩ := hcc
            have := eq_of_beq_nat c1; subst this
            have hl := chkOpds_sound he c2 hvs
            refine enter (args' := args.map a.eval) hx (by simpa using hl) (callee hop ?_ c3)
            simp [resolve, Act.eval, Deferred.ofValue]
          | _ => simp [chkOp] at hcc
        | invoke _ _ => simp [chkOp] at hcc
        | builtin bb => simp [chkOp, chkBuiltin] at hcc
      | _ => rw [hop] at hcc; cases hcc
    · cases hx
  case callv f cargs =>
    simp only [opx] at hx
    split at hx
    · rename_i fv vs hfv hvs
      have hcc := hc
      cases hop : o.op with
      | call c =>
        rw [hop] at hcc
        obtain ⟨cal, args, ts⟩ := c
        cases cal with
        | value fo =>
          have hcc' : chkOpd fo f = true ∧ chkOpds args.toList cargs = true := by
            cases fo <;> simpa [chkOp] using hcc
          obtain ⟨c1, c2⟩ := hcc'
          have hl := chkOpds_sound he c2 hvs
          have hfr := chkOpd_sound he c1 hfv
          unfold callV at hx
          split at hx
          · rename_i g fs cs0
            generalize hE : a.eval fo = E at hfr
            cases hfr with
            | @func g fs1 fs' cs1 cs' hfz hff hsz hh =>
              -- the function has a body: it was run
              refine enter (args' := fs' ++ args.map a.eval ++ cs') hx ?_ ?_
              · rw [Array.toList_append, Array.toList_append, Array.toList_map]
                refine LR.append (LR.append (LR.of_get (by simpa using hfz) fun j v0 hj => (AR.toList ⟨hfz, hff⟩).get j v0 hj) hl) ?_
                exact (LR.of_get (by simpa using hsz) fun j v0 hj => (AR.toList ⟨hsz, hh⟩).get j v0 hj)
              · have hgf := (hcall hx).1
                unfold goFunc at hgf
                split at hgf
                · rename_i fn hfun
                  simp only [Bool.and_eq_true] at hgf
                  have h1 : (fn.name == "runtime.NumGoroutine") = false := by simpa using hgf.1
                  have h2 : fn.body.isNone = false := by cases hb : fn.body <;> simp [hb] at hgf ⊢
                  simp only [execOp, hop, Sem.run_bind, resolve, hE, Deferred.ofValue, Sem.run_pure, Result.andThen_ok, invoke, callFunc, run_program, hfun]
                  simp [h1, h2]
                · cases hgf
          · rename_i l _ _
            generalize hE : a.eval fo = E at hfr
            cases hfr with
            | @yield l1 s hl0 =>
              obtain ⟨f', tmps, assign, body, w0, w', ρ', v', q1, q2, q3, q4⟩ := hround hx hl0 (args' := args.map a.eval) (by simpa using hl) hr hdm hf (b.atR a (.inRegion ops (i :: rest) :: k)) cs
              have hrun : (execOp a.eval o).run P w = .ok (.round s.b f' tmps assign body) w0 := by
                simp [execOp, hop, resolve, hE, Deferred.ofValue, invoke, q1]
              have henter : step P (lone (b.atR a (.inRegion ops (i :: rest) :: k)) cs w) = .next (lone (Frame.round s.b f' tmps assign body .normal) (b.atR a (.inRegion ops (i :: rest) :: k) :: cs) w0) :=
                step_lone_go (by rw [hg]; simp [stepG.apply, hrun, Frame.atR])
              refine ⟨v', w', ρ', .head henter ?_, q3, q4⟩
              rw [← finish_at ho]; exact q2
          · cases hx
        | invoke _ _ => simp [chkOp] at hcc
        | builtin bb => simp [chkOp, chkBuiltin] at hcc
      | _ => rw [hop] at hcc; cases hcc
    · cases hx
  all_goals
    simp only [opx] at hx
    obtain ⟨nx, v', w', ρ', q1, q2, q3, q4⟩ := op_sound (C := St0 P) _ hc he hr hf hx
    exact ⟨v', w', ρ', .one (step_val ho hw hnd q1 q2), q3, q4⟩
end steps
end Go.Proofs.Ytbhgncfbljkdgaa.AI
