/- The interpreter step by step: equations for simp. -/
import Derived.Test.YtoaadbakbfphgaaKa
namespace Go.PI
open Go

variable {P : Program} {C : CallT} {T : Nat → TI} {pol : Pol} {f base k : Nat}

noncomputable def thenC (C : CallT) (T : Nat → TI) (pol : Pol) (f base k : Nat) (r : Option (Ex × St)) (b : Code) : Option (Ex × St) :=
  match r with
  | some (.normal, st) => codeF C T pol f base k b st
  | some (.fork s, st) => joinF s (codeF C T pol f base k b st)
  | r => r

theorem codeF_seq (a b : Code) (st : St) : codeF C T pol f base k (.seq a b) st = thenC C T pol f base k (codeF C T pol f base k a st) b := by
  simp only [codeF]
  rcases codeF C T pol f base k a st with _ | ⟨e, s⟩
  · rfl
  · cases e <;> rfl

theorem thenC_normal (st : St) (b : Code) : thenC C T pol f base k (some (.normal, st)) b = codeF C T pol f base k b st := rfl
theorem thenC_ret (st : St) (b : Code) : thenC C T pol f base k (some (.ret, st)) b = some (.ret, st) := rfl
theorem thenC_exit (st : St) (i : Nat) (b : Code) : thenC C T pol f base k (some (.exit i, st)) b = some (.exit i, st) := rfl
theorem thenC_fork (s st : St) (b : Code) : thenC C T pol f base k (some (.fork s, st)) b = joinF s (codeF C T pol f base k b st) := rfl
theorem forkF_ret_normal (s t : St) : forkF (some (.ret, s)) (some (.normal, t)) = some (.fork s, t) := rfl
theorem forkF_normal_ret (s t : St) : forkF (some (.normal, s)) (some (.ret, t)) = some (.fork t, s) := rfl
theorem forkF_same (x : Option (Ex × St)) (hx : ∀ e s, x = some (e, s) → ∀ t, e ≠ .fork t) : forkF x x = x := by
  unfold forkF
  split <;> rename_i h1 h2 <;> first | (rw [h1] at h2; cases h2; done) | simp
theorem joinF_ret (s : St) : joinF s (some (.ret, s)) = some (.ret, s) := by simp [joinF]
theorem joinF_normal (s t : St) : joinF s (some (.normal, t)) = some (.fork s, t) := rfl
theorem thenC_none (b : Code) : thenC C T pol f base k none b = none := rfl
theorem thenC_ite {p : Prop} [Decidable p] (x y : Option (Ex × St)) (b : Code) : thenC C T pol f base k (if p then x else y) b = if p then thenC C T pol f base k x b else thenC C T pol f base k y b := by
  split <;> rfl

theorem codeF_ret (st : St) : codeF C T pol f base k .ret st = some (.ret, st) := by simp only [codeF]
theorem codeF_skip (st : St) : codeF C T pol f base k .skip st = some (.normal, st) := by simp only [codeF]
theorem codeF_label (l : Nat) (st : St) : codeF C T pol f base k (.label l) st = some (.normal, st) := by simp only [codeF]
theorem codeF_exit (i : Nat) (st : St) : codeF C T pol f base k (.exit i) st = some (.exit i, st) := by simp only [codeF]

def regC (keep : List Nat) (ops : List Oper) : Option St → Option (Ex × St)
  | some st => some (.normal, regionEnd keep ops st)
  | none => none

theorem codeF_region (id : Nat) (ops : Array Oper) (st : St) : codeF C T pol f base k (.region id ops false) st =
    regC (pol.keep f) ops.toList (opsF C T base ops.toList (pol.take f id) st.bx.length (List.range ops.size) { st.frost base (pol.cold f id) with bx := (st.frost base (pol.cold f id)).bx ++ zeroBoxes ops.toList, ln := [] }) := by
  simp only [codeF, regionF]
  generalize opsF C T base ops.toList (pol.take f id) st.bx.length (List.range ops.size) _ = r
  cases r <;> rfl

/-- A region whose order is open. -/
theorem codeF_draw (id : Nat) (ops : Array Oper) (st : St) : codeF C T pol f base k (.region id ops true) st =
    regC (pol.keep f) ops.toList (opsQ C T base ops.toList (pol.take f id) st.bx.length (outsOf st (pol.outs f id)) (pol.pure f id) (List.range ops.size) { st.frost base (pol.cold f id) with bx := (st.frost base (pol.cold f id)).bx ++ zeroBoxes ops.toList, ln := [] }) := by
  simp only [codeF, regionF]
  generalize opsQ C T base ops.toList (pol.take f id) st.bx.length _ _ (List.range ops.size) _ = r
  cases r <;> rfl

theorem regC_some (keep : List Nat) (ops : List Oper) (st : St) : regC keep ops (some st) = some (.normal, regionEnd keep ops st) := rfl

def nextO (C : CallT) (T : Nat → TI) (base : Nat) (ops : List Oper) (tk : List Nat) (al : Nat) (r : List Nat) : Option St → Option St
  | some st => opsF C T base ops tk al r st
  | none => none

theorem nextO_some {ops : List Oper} {tk : List Nat} {al : Nat} {r : List Nat} (st : St) : nextO C T base ops tk al r (some st) = opsF C T base ops tk al r st := rfl

def stepO (C : CallT) (T : Nat → TI) (base : Nat) (ops : List Oper) (tk : List Nat) (al i : Nat) (o : Oper) (st : St) : Option Bool → Option St
  | some true => opF C T base (ownOf ops ++ tk) (al + allocsOf (ops.take i)) o st
  | some false => some (st.setO o.dst (.tup []))
  | none => none

theorem opsF_cons {ops : List Oper} {tk : List Nat} {al i : Nat} {r : List Nat} {st : St} {o : Oper} (h : ops[i]? = some o) : opsF C T base ops tk al (i :: r) st = nextO C T base ops tk al r (stepO C T base ops tk al i o st (wantedD ops o st)) := by
  simp only [opsF, h]
  rcases wantedD ops o st with _ | _ | _
  · rfl
  · rfl
  · simp only [stepO]
    cases opF C T base (ownOf ops ++ tk) (al + allocsOf (ops.take i)) o st <;> rfl

theorem opsF_nil {ops : List Oper} {tk : List Nat} {al : Nat} {st : St} : opsF C T base ops tk al [] st = some st := rfl

noncomputable def nextQ (C : CallT) (T : Nat → TI) (base : Nat) (ops : List Oper) (tk : List Nat) (al : Nat) (ob : Option (List Nat)) (pc : Bool) (r : List Nat) : Option St → Option St
  | some st => opsQ C T base ops tk al ob pc r st
  | none => none

theorem nextQ_some {ops : List Oper} {tk : List Nat} {al : Nat} {ob : Option (List Nat)} {pc : Bool} {r : List Nat} (st : St) : nextQ C T base ops tk al ob pc r (some st) = opsQ C T base ops tk al ob pc r st := rfl

/-- The same but for boxes, or a store, or a new box. -/
def quietB (k : Nat) (a b : St) : Prop := a.ln = [] ∧ (k ≤ 2 → a.bx = b.bx ∧ a.dirty = b.dirty ∧ a.up = b.up)

open Classical in
noncomputable def checkQ (k : Nat) (st : St) : Option St → Option St
  | some s => if quietB k s st then some s else none
  | none => none

open Classical in
theorem checkQ_some {k : Nat} {st : St} (s : St) : checkQ k st (some s) = if quietB k s st then some s else none := rfl

def guardQ : Bool → Option St → Option St
  | true, r => r
  | false, _ => none

def pureQ (C : CallT) (T : Nat → TI) (base : Nat) (pc : Bool) (o : Oper) (st : St) : Bool := !pc || pureCall C T base o st

noncomputable def stepQ' (C : CallT) (T : Nat → TI) (base : Nat) (ops : List Oper) (tk : List Nat) (al : Nat) (_ob : Option (List Nat)) (pc : Bool) (i : Nat) (o : Oper) (st : St) : Option Bool → Option St
  | some true => guardQ (pureQ C T base pc o st) (checkQ (opKind o.op) st (opF C T base (ownOf ops ++ tk) (al + allocsOf (ops.take i)) o st))
  | some false => some (st.setO o.dst (.tup []))
  | none => none

theorem opsQ_cons {ops : List Oper} {tk : List Nat} {al i : Nat} {ob : Option (List Nat)} {pc : Bool} {r : List Nat} {st : St} {o : Oper} (h : ops[i]? = some o) : opsQ C T base ops tk al ob pc (i :: r) st =
    nextQ C T base ops tk al ob pc r (guardQ (((footR ops o).all fun t => (st.get t).nb) && outOk T ob o st) (stepQ' C T base ops tk al ob pc i o st (wantedD ops o st))) := by
  simp only [opsQ, stepQ, h]
  cases (footR ops o).all fun t => (st.get t).nb
  · simp [guardQ, nextQ]
  cases outOk T ob o st
  · simp [guardQ, nextQ]
  · simp only [Bool.and_self, and_self, if_true]
    rcases wantedD ops o st with _ | _ | _
    · rfl
    · rfl
    · simp only [stepQ', guardQ]
      have e : (pc = true → pureCall C T base o st = true) ↔ pureQ C T base pc o st = true := by
        cases pc <;> simp [pureQ]
      by_cases hp : pc = true → pureCall C T base o st = true
      · rw [if_pos hp, e.mp hp]
        cases opF C T base (ownOf ops ++ tk) (al + allocsOf (ops.take i)) o st with
        | none => rfl
        | some s =>
          by_cases hq : quietB (opKind o.op) s st
          · rw [checkQ_some, if_pos hq]
            simp only [if_pos (show s.ln = [] ∧ (opKind o.op ≤ 2 → s.bx = st.bx ∧ s.dirty = st.dirty ∧ s.up = st.up) from hq)]
            rfl
          · rw [checkQ_some, if_neg hq]
            simp only [if_neg (show ¬ (s.ln = [] ∧ (opKind o.op ≤ 2 → s.bx = st.bx ∧ s.dirty = st.dirty ∧ s.up = st.up)) from hq)]
            rfl
      · rw [if_neg hp]
        have : pureQ C T base pc o st = false := by
          cases h : pureQ C T base pc o st
          · rfl
          · exact absurd (e.mpr h) hp
        rw [this]
        rfl

theorem opsQ_nil {ops : List Oper} {tk : List Nat} {al : Nat} {ob : Option (List Nat)} {pc : Bool} {st : St} : opsQ C T base ops tk al ob pc [] st = some st := rfl

theorem stepO_true {ops : List Oper} {tk : List Nat} {al i : Nat} {o : Oper} {st : St} : stepO C T base ops tk al i o st (some true) = opF C T base (ownOf ops ++ tk) (al + allocsOf (ops.take i)) o st := rfl
theorem stepO_false {ops : List Oper} {tk : List Nat} {al i : Nat} {o : Oper} {st : St} : stepO C T base ops tk al i o st (some false) = some (st.setO o.dst (.tup [])) := rfl

noncomputable def condC (C : CallT) (T : Nat → TI) (pol : Pol) (f base k : Nat) (d : D) (a b : Code) (st : St) : Option (Ex × St) :=
  match d with
  | .bool c => if c then codeF C T pol f base k a st else codeF C T pol f base k b st
  | .unk => forkF (codeF C T pol f base k a st) (codeF C T pol f base k b st)
  | _ => none

theorem codeF_cond (c : Operand) (a b : Code) (st : St) : codeF C T pol f base k (.cond c a b) st = condC C T pol f base k (st.see T 0 c) a b st := by
  simp only [codeF, condC]
  cases st.see T 0 c <;> rfl

theorem condC_unk (a b : Code) (st : St) : condC C T pol f base k .unk a b st = forkF (codeF C T pol f base k a st) (codeF C T pol f base k b st) := rfl
theorem condC_true (a b : Code) (st : St) : condC C T pol f base k (.bool true) a b st = codeF C T pol f base k a st := rfl
theorem condC_false (a b : Code) (st : St) : condC C T pol f base k (.bool false) a b st = codeF C T pol f base k b st := rfl

def endR (n : Nat) : Option (List D × St) → Ret
  | some (l, st) =>
    if (tupD l).low n = true ∧ st.up = false then some (tupD l, st.bx.take n, st.dirty, false)
    else some (tupD l, st.bx, st.dirty, st.up)
  | none => none

def endC (T : Nat → TI) (n : Nat) (rs : List ResultVar) : Option (Ex × St) → Ret
  | some (.exit _, _) => none
  | some (.fork _, _) => none
  | some (_, st) => endR n (resF T n st rs)
  | none => none

/-- Behind a round. -/
def nextL (body : St → Option (Ex × St)) (pre : St → St) (k : Nat) : Option (Ex × St) → Option (Ex × St)
  | some (.normal, st) => loopF body pre k st
  | some (.fork _, _) => none
  | r => r

theorem loopF_step (body : St → Option (Ex × St)) (pre : St → St) (k : Nat) (st : St) : loopF body pre (k + 1) st = nextL body pre k (body (pre st)) := by
  simp only [loopF]
  rcases body (pre st) with _ | ⟨e, s⟩
  · rfl
  · cases e <;> rfl

theorem nextL_normal (body : St → Option (Ex × St)) (pre : St → St) (k : Nat) (st : St) : nextL body pre k (some (.normal, st)) = loopF body pre k st := rfl
theorem nextL_ret (body : St → Option (Ex × St)) (pre : St → St) (k : Nat) (st : St) : nextL body pre k (some (.ret, st)) = some (.ret, st) := rfl
theorem nextL_exit (body : St → Option (Ex × St)) (pre : St → St) (k i : Nat) (st : St) : nextL body pre k (some (.exit i, st)) = some (.exit i, st) := rfl

theorem codeF_loop (c : Code) (st : St) : codeF C T pol f base k (.loop c) st = loopF (codeF C T pol f base k c) (roundStart st.bx.length (pol.live f (headId c))) k st := by
  simp only [codeF]

def blockC (id : Nat) : Option (Ex × St) → Option (Ex × St)
  | some (.exit id', st) => if id' = id then some (.normal, st) else some (.exit id', st)
  | r => r

theorem codeF_block (id : Nat) (c : Code) (st : St) : codeF C T pol f base k (.block id c) st = blockC id (codeF C T pol f base k c st) := by
  simp only [codeF]
  rcases codeF C T pol f base k c st with _ | ⟨e, s⟩
  · rfl
  · cases e <;> rfl

theorem blockC_exit (id i : Nat) (st : St) : blockC id (some (.exit i, st)) = if i = id then some (.normal, st) else some (.exit i, st) := rfl
theorem blockC_normal (id : Nat) (st : St) : blockC id (some (.normal, st)) = some (.normal, st) := rfl
theorem blockC_ret (id : Nat) (st : St) : blockC id (some (.ret, st)) = some (.ret, st) := rfl

theorem endC_ret (n : Nat) (rs : List ResultVar) (st : St) : endC T n rs (some (.ret, st)) = endR n (resF T n st rs) := rfl
theorem endC_normal (n : Nat) (rs : List ResultVar) (st : St) : endC T n rs (some (.normal, st)) = endR n (resF T n st rs) := rfl

theorem bodyF_eq {fn : Func} {c : Code} (h : P.funcs[f]? = some fn) (hb : fn.body = some c) (hn : fn.name ≠ "runtime.NumGoroutine") (ho : openC pol f c = true) (args : List D) (bx : List (List D)) :
    bodyF P T pol C k f args bx = endC T bx.length fn.results.toList (codeF C T pol f bx.length k c { tm := args ++ List.replicate (fn.ntmps - args.length) .undef, bx, ln := [], dirty := [], up := false }) := by
  simp only [bodyF, h, hb, if_neg hn, ho, Bool.true_eq_false, if_false]
  rcases codeF C T pol f bx.length k c { tm := args ++ List.replicate (fn.ntmps - args.length) .undef, bx, ln := [], dirty := [], up := false } with _ | ⟨e, st⟩
  · rfl
  · cases e with
    | exit i => rfl
    | fork s => rfl
    | normal =>
      simp only [Ex.leaves, if_true, endC]
      rcases resF T bx.length st fn.results.toList with _ | ⟨l, s⟩ <;> rfl
    | ret =>
      simp only [Ex.leaves, if_true, endC]
      rcases resF T bx.length st fn.results.toList with _ | ⟨l, s⟩ <;> rfl

theorem callF_eq {ovr : CallT} {fn : Func} {c : Code} {args : List D} {bx : List (List D)} (ho : ovr f args bx = none) (h : P.funcs[f]? = some fn) (hb : fn.body = some c) (hn : fn.name ≠ "runtime.NumGoroutine") (hop : openC pol f c = true) :
    callF P T pol ovr (k + 1) f args bx = endC T bx.length fn.results.toList (codeF (callF P T pol ovr k) T pol f bx.length k c { tm := args ++ List.replicate (fn.ntmps - args.length) .undef, bx, ln := [], dirty := [], up := false }) := by
  simp only [callF, ho]
  exact bodyF_eq h hb hn hop args bx

theorem callF_told {ovr : CallT} {args : List D} {bx : List (List D)} {r : D × List (List D) × List Nat × Bool} (ho : ovr f args bx = some r) : callF P T pol ovr (k + 1) f args bx = some r := by
  simp only [callF, ho]

end Go.PI
