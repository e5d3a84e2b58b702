/- The interpreter's steps for simp; slices of strings. -/
import Derived.Test.YtoaadbakbfphgaaKb
namespace Go.PI
open Go

attribute [simp] codeF_seq codeF_ret codeF_skip codeF_label codeF_exit codeF_region codeF_cond thenC_normal thenC_ret thenC_exit thenC_none thenC_fork forkF_ret_normal forkF_normal_ret joinF_ret joinF_normal regC_some opsF_nil nextO_some stepO_true stepO_false condC_true condC_false condC_unk endR endC_ret endC_normal opsF_cons opF wantedD opV TI.zero TI.size zeroBoxes allocsOf St.setO St.set St.forget regionEnd clearAll clearSlots St.takes St.take takeD leafTake St.raw constD tmpOf fillD D.cells ownOf St.see St.get St.store St.box St.at lowL D.low lowLL Ex.leaves resF borLeaves borLeaf mkD TI.agg leavesTake tupD callV callS callG builtinV St.uses St.use useD leavesUse leafUse St.down St.undo St.put D.leaf D.setLeaf borD Pl.inSlot Pl.inBox D.isTup D.isBor binO nilC binN boolOp binA binD eqD eqFields eqLeafT plainT intD boolD moreOf unD convD byteT codeF_draw opsQ_cons opsQ_nil nextQ_some checkQ_some quietB guardQ pureQ outOk outsOf stepQ' opKind footR guardRd opRd tmpsL D.nb D.nbl pureCall St.frost St.pls St.chills St.chill nextL_normal nextL_ret nextL_exit codeF_block blockC_exit blockC_normal blockC_ret headId roundStart fillEls zerosD bestD seeSl apartL

/-- A part of a text: 0, 1: of two; 2: inside; 3, 4: of a condition's. -/
def subC : List Nat → Code → Code
  | [], c => c
  | 0 :: r, .seq a _ => subC r a
  | 1 :: r, .seq _ b => subC r b
  | 2 :: r, .block _ c => subC r c
  | 2 :: r, .loop c => subC r c
  | 3 :: r, .cond _ a _ => subC r a
  | 4 :: r, .cond _ _ b => subC r b
  | _, c => c

def bodyC (f : Func) : Code := f.body.getD .skip

/-- A slice of strings. -/
def strs (l : List ByteArray) : List (List D) := l.map fun s => [.str s]

@[simp] theorem low_strs (n : Nat) (l : List ByteArray) : lowLL n (strs l) = true := by
  induction l with
  | nil => rfl
  | cons a l ih => simp [strs] at ih ⊢; exact ih

@[simp] theorem len_strs (l : List ByteArray) : (strs l).length = l.length := by simp [strs]

end Go.PI
