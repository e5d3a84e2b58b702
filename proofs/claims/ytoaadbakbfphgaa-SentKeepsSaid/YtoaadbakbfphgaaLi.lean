/- SentKeeps: its states, the loop over the waiting texts. -/
import Derived.Test.YtoaadbakbfphgaaLh
import Derived.Laws.StructEq
namespace Go.PI
open Go Go.Proofs
set_option maxRecDepth 20000
set_option linter.unusedSimpArgs false
set_option linter.unusedVariables false
set_option maxHeartbeats 4000000

/-- A step. -/
structure Stp where
  act : Int
  peer : Int
  seq : Int
  text : ByteArray

def stps (l : List Stp) : List (List D) := l.map fun s => [.int .i64 s.act, .int .i64 s.peer, .int .i64 s.seq, .str s.text]

@[simp] theorem low_stps (n : Nat) (l : List Stp) : lowLL n (stps l) = true := by
  induction l with
  | nil => rfl
  | cons a l ih => simp [stps] at ih ⊢; exact ih

@[simp] theorem len_stps (l : List Stp) : (stps l).length = l.length := by simp [stps]

/-- Ahead of a round. -/
def S3 (n : Int) (l : List Stp) (q i a b : Int) (t : List ByteArray) (w p : Int) (ex : List (List D)) (v8 v9 v10 v11 v12 v21 v31 v36 v49 v61 v73 v94 v131 v136 v148 : D) : St :=
  { tm := [.int .u8 n, .sl 0 4 (stps l), .undef, .undef, .bool false, .ptr 0 0, .int .i64 q, .int .i64 i, v8, v9, v10, v11, v12, .undef, .undef, .bool false, .undef, .undef, .undef, .undef, .undef, v21, .undef, .undef, .undef, .undef, .undef, .undef, .undef, .undef, .undef, v31, .undef, .undef, .undef, .undef, v36, .undef, .undef, .undef, .undef, .undef, .undef, .undef, .undef, .undef, .undef, .undef, .undef, v49, .undef, .undef, .undef, .undef, .undef, .undef, .undef, .undef, .undef, .undef, .undef, v61, .undef, .undef, .undef, .undef, .undef, .undef, .undef, .undef, .undef, .undef, .undef, v73, .undef, .undef, .undef, .undef, .undef, .undef, .undef, .undef, .undef, .undef, .undef, .undef, .undef, .undef, .undef, .undef, .undef, .undef, .undef, .undef, v94, .undef, .undef, .undef, .undef, .undef, .undef, .undef, .undef, .undef, .undef, .undef, .undef, .undef, .undef, .undef, .undef, .undef, .undef, .undef, .undef, .undef, .undef, .undef, .undef, .undef, .undef, .undef, .undef, .undef, .undef, .undef, .undef, .undef, .undef, .undef, .undef, v131, .undef, .undef, .undef, .undef, v136, .undef, .undef, .undef, .undef, .undef, .undef, .undef, .undef, .undef, .undef, .undef, v148, .undef],
    bx := [.int .i64 a, .int .i64 b, .sl 0 1 (strs t), .int .i64 w, .int .i64 p] :: ex, ln := [], dirty := [], up := false }

/-- Behind the call. -/
def S21 (n : Int) (l : List Stp) (q i a b : Int) (f : Nat) (t : List ByteArray) (w p : Int) (s : Stp) (was : List ByteArray) (told : Bool) (v36 v49 v61 v73 : D) : St :=
  { tm := [.int .u8 n, .sl 0 4 (stps l), .undef, .undef, .bool false, .ptr 0 0, .int .i64 q, .int .i64 i, .ptr 1 0, .sl 0 1 (strs was), .bool told, .undef, .undef, .undef, .undef, .bool false, .undef, .undef, .undef, .undef, .undef, .bool true, .undef, .undef, .undef, .undef, .undef, .undef, .undef, .undef, .undef, .bool false, .undef, .undef, .undef, .undef, v36, .undef, .undef, .undef, .undef, .undef, .undef, .undef, .undef, .undef, .undef, .undef, .undef, v49, .undef, .undef, .undef, .undef, .undef, .undef, .undef, .undef, .undef, .undef, .undef, v61, .undef, .undef, .undef, .undef, .undef, .undef, .undef, .undef, .undef, .undef, .undef, v73, .undef, .undef, .undef, .undef, .undef, .undef, .undef, .undef, .undef, .undef, .undef, .undef, .undef, .undef, .undef, .undef, .undef, .undef, .undef, .undef, .undef, .undef, .undef, .undef, .undef, .undef, .undef, .undef, .undef, .undef, .undef, .undef, .undef, .undef, .undef, .undef, .undef, .undef, .undef, .undef, .undef, .undef, .undef, .undef, .undef, .undef, .undef, .undef, .undef, .undef, .undef, .undef, .undef, .undef, .undef, .undef, .undef, .undef, .undef, .undef, .undef, .undef, .undef, .undef, .undef, .undef, .undef, .undef, .undef, .undef, .undef, .undef, .undef, .undef, .undef, .undef],
    bx := [[.int .i64 a, .int .i64 b, .sl f 1 (strs t), .int .i64 w, .int .i64 p], [.int .i64 s.act, .int .i64 s.peer, .int .i64 s.seq, .str s.text]], ln := [], dirty := [], up := false }

/-- In the loop over what waits. -/
def S27 (n : Int) (l : List Stp) (q i a b : Int) (t : List ByteArray) (w p : Int) (s : Stp) (was : List ByteArray) (told : Bool) (v11 : D) (j : Int) (v36 v49 v61 v73 v94 v131 v136 v148 : D) : St :=
  { tm := [.int .u8 n, .sl 0 4 (stps l), .undef, .undef, .bool false, .ptr 0 0, .int .i64 q, .int .i64 i, .ptr 1 0, .sl 0 1 (strs was), .bool told, v11, .int .i64 j, .undef, .undef, .bool false, .undef, .undef, .undef, .undef, .undef, .bool true, .undef, .undef, .undef, .undef, .undef, .undef, .undef, .undef, .undef, .bool false, .undef, .undef, .undef, .undef, v36, .undef, .undef, .undef, .undef, .undef, .undef, .undef, .undef, .undef, .undef, .undef, .undef, v49, .undef, .undef, .undef, .undef, .undef, .undef, .undef, .undef, .undef, .undef, .undef, v61, .undef, .undef, .undef, .undef, .undef, .undef, .undef, .undef, .undef, .undef, .undef, v73, .undef, .undef, .undef, .undef, .undef, .undef, .undef, .undef, .undef, .undef, .undef, .undef, .undef, .undef, .undef, .undef, .undef, .undef, .undef, .undef, v94, .undef, .undef, .undef, .undef, .undef, .undef, .undef, .undef, .undef, .undef, .undef, .undef, .undef, .undef, .undef, .undef, .undef, .undef, .undef, .undef, .undef, .undef, .undef, .undef, .undef, .undef, .undef, .undef, .undef, .undef, .undef, .undef, .undef, .undef, .undef, .undef, v131, .undef, .undef, .undef, .undef, v136, .undef, .undef, .undef, .undef, .undef, .undef, .undef, .undef, .undef, .undef, .undef, v148, .undef],
    bx := [[.int .i64 a, .int .i64 b, .sl 0 1 (strs t), .int .i64 w, .int .i64 p], [.int .i64 s.act, .int .i64 s.peer, .int .i64 s.seq, .str s.text]], ln := [], dirty := [], up := false }

/-- From region 21 on; the loop over what waits. -/
noncomputable def rest21 : Code := subC [1, 1, 1, 1, 0, 1, 2, 2, 1, 0, 2, 1, 1, 1, 1] (bodyC Try.f3)
noncomputable def body27 : Code := subC [1, 1, 1, 1, 0, 1, 2, 2, 1, 0, 2, 1, 1, 1, 1, 1, 1, 1, 1, 2, 2] (bodyC Try.f3)

theorem likeB_iff {a b : ByteArray} : likeB a b = true ↔ a = b := by
  unfold likeB
  rw [ByteArray.toList_eq, ByteArray.toList_eq, beq_iff_eq]
  constructor
  · intro h
    cases a
    cases b
    congr 1
    exact Array.toList_inj.mp h
  · rintro rfl
    rfl

theorem place_at {t : List ByteArray} (h : t.Nodup) (j : Nat) (hj : j < t.length) : placeI t t[j] = j := by
  have : t.findIdx? (fun y => likeB y t[j]) = some j := by
    rw [List.findIdx?_eq_some_iff_getElem]
    refine ⟨hj, by simp [likeB_iff], fun i hi => ?_⟩
    intro h2
    have h3 := likeB_iff.mp h2
    have := (List.getElem_inj h).mp h3
    omega
  unfold placeI
  rw [this]

theorem loop27 (k : Nat) (n : Int) (l : List Stp) (q i a b : Int) (t : List ByteArray) (w p : Int) (s : Stp) (was : List ByteArray) (told : Bool) (v11 v36 v49 v61 v73 v94 v131 : D) (hn : t.Nodup) (ht : t.length ≤ 1000000) (hk : t.length + 2 ≤ k) :
    ∀ (r : Nat) (j m : Nat) (v136 v148 : D), j + r = t.length → r < m →
    loopF (codeF (callA k) tiA polA 3 0 k body27) (roundStart 2 (polA.live 3 27)) m (S27 n l q i a b t w p s was told v11 j v36 v49 v61 v73 v94 v131 v136 v148) =
      some (.exit 2, S27 n l q i a b t w p s was told v11 t.length v36 v49 v61 v73 v94 v131 (.bool false) .undef)
  | 0, j, m, v136, v148, h, hm => by
    obtain ⟨m, rfl⟩ : ∃ x, m = x + 1 := ⟨m - 1, by omega⟩
    have hj : j = t.length := by omega
    subst hj
    rw [loopF_step]
    simp (config := { maxSteps := 10000000 }) [body27, subC, bodyC, Try.f3, S27, List.range_succ]
  | r + 1, j, m, v136, v148, h, hm => by
    obtain ⟨m, rfl⟩ : ∃ x, m = x + 1 := ⟨m - 1, by omega⟩
    have hj : j < t.length := by omega
    have hc := a19 k t t[j] ht hk
    rw [place_at hn j hj] at hc
    have hg : ∀ h : j < (strs t).length, (strs t)[j] = [.str t[j]] := fun h => by simp [strs]
    have hw : IntKind.i64.wrap ((j : Int) + 1) = (j : Int) + 1 := IntWalk.i64_in _ (by omega)
    have step : codeF (callA k) tiA polA 3 0 k body27 (roundStart 2 (polA.live 3 27) (S27 n l q i a b t w p s was told v11 j v36 v49 v61 v73 v94 v131 v136 v148)) =
        some (.normal, S27 n l q i a b t w p s was told v11 (j + 1 : Nat) v36 v49 v61 v73 v94 v131 (.bool true) (.bool false)) := by
      simp (config := { maxSteps := 10000000 }) [body27, subC, bodyC, Try.f3, S27, List.range_succ, hj, hc, hg, hw]
    rw [loopF_step, step, nextL_normal]
    exact loop27 k n l q i a b t w p s was told v11 v36 v49 v61 v73 v94 v131 hn ht hk r (j + 1) m _ _ (by omega) (by omega)

end Go.PI
