import Derived.Test.YtoaadbakbfphgaaIa
section
/- The pure interpreter's values against memory: who may write which block, what a value reads as, and what a step must leave alone. -/
namespace Go.PI
open Go

inductive Key where
  | s (t i j : Nat)
  | b (loc j : Nat)
  | r (i j : Nat)
  deriving DecidableEq

def Pl.key : Pl → Key
  | .s t j => .s t 0 j
  | .b loc j => .b loc j

/-- Who may write a block: nobody; a box's block; from cell m on, whoever holds the slice at k; wholly, the slice at k; somebody else (the first m cells stay for good). -/
inductive Perm where
  | fr
  | var (loc : Nat)
  | tip (m : Nat) (k : Key)
  | ex (k : Key)
  | held (m : Nat)

structure Gh where
  bl : List (Option Nat)
  pm : Nat → Perm

/-- Cell i of block b stays as it is. -/
def Gh.fz (G : Gh) (b i : Nat) : Prop := G.pm b = .fr ∨ (∃ m k, G.pm b = .tip m k ∧ i < m) ∨ ∃ m, G.pm b = .held m ∧ i < m

def at_ (b o : Nat) : Addr := ⟨b, o, none⟩

inductive Ro (G : Gh) (w : World) : D → Value → Prop
  | int (k : IntKind) (n : Int) : Ro G w (.int k n) (.int k n)
  | bool (b : Bool) : Ro G w (.bool b) (.bool b)
  | unk (b : Bool) : Ro G w .unk (.bool b)
  | str (s : ByteArray) : Ro G w (.str s) (.string s)
  | nilp : Ro G w .nilp (.pointer none)
  | nilf : Ro G w .nilf .nilFunc
  | nili : Ro G w .nili .nilIface
  | ptr (loc off b : Nat) (h : G.bl[loc]? = some (some b)) : Ro G w (.ptr loc off) (.pointer (some (at_ b off)))
  | fn (f : Fn) (a c : List D) (va vc : Array Value) (ha : va.size = a.length) (hc : vc.size = c.length)
      (h1 : ∀ i (h : i < a.length) (h' : i < va.size), Ro G w a[i] va[i]) (h2 : ∀ i (h : i < c.length) (h' : i < vc.size), Ro G w c[i] vc[i]) (hf : ∀ d ∈ a ++ c, ∀ l, d = .agg l → ∀ e ∈ l, ∀ q, e ≠ .agg q) : Ro G w (.fn f a c) (.func f va vc)
  | iface (t : TypeId) (d : D) (v : Value) (h : Ro G w d v) : Ro G w (.iface t d) (.iface t v)
  | agg (l : List D) (vs : Array Value) (hs : vs.size = l.length) (h : ∀ i (h : i < l.length) (h' : i < vs.size), Ro G w l[i] vs[i]) : Ro G w (.agg l) (.agg vs)
  | nils (n : Nat) : Ro G w (.sl 0 n []) (.slice none 0 0)
  | nila (n : Nat) (a : Addr) (cap : Nat) : Ro G w (.sl 0 n []) (.slice (some a) 0 cap)
  | sl (n : Nat) (l : List (List D)) (b o cap : Nat) (vs : Nat → Nat → Value) (hcap : l.length ≤ cap) (hn : ∀ x ∈ l, x.length = n ∧ ∀ d ∈ x, ∀ q, d ≠ .agg q)
      (hc : ∀ i j, i < l.length → j < n → w.cell? (at_ b (o + i * n + j)) = some (vs i j) ∧ G.fz b (o + i * n + j))
      (h : ∀ i j (hi : i < l.length) (hj : j < l[i].length), Ro G w l[i][j] (vs i j)) : Ro G w (.sl 0 n l) (.slice (some (at_ b o)) l.length cap)

/-- A slice's value over elements in block b from o on, whoever may write them. -/
structure Row (G : Gh) (w : World) (n : Nat) (l : List (List D)) (b o : Nat) : Prop where
  hn : ∀ x ∈ l, x.length = n ∧ ∀ d ∈ x, ∀ q, d ≠ .agg q
  row : ∃ vs : Nat → Nat → Value, (∀ i j, i < l.length → j < n → w.cell? (at_ b (o + i * n + j)) = some (vs i j)) ∧ ∀ i j (hi : i < l.length) (hj : j < l[i].length), Ro G w l[i][j] (vs i j)

/-- The block of a slice's row: all cells there, none frozen; at least as many as its capacity asks for. -/
def Whole (w : World) (b upto : Nat) : Prop := ∃ cs ty fz, w.heap[b]? = some (.cells cs ty fz) ∧ upto ≤ cs.size ∧ ∀ i, i < cs.size → w.frozen? (at_ b i) = false

/-- The right to append. -/
def Tip (G : Gh) (w : World) (κ : Key) (n : Nat) (l : List (List D)) (v : Value) : Prop :=
  (l = [] ∧ v = .slice none 0 0) ∨
  ∃ b o cap, v = .slice (some (at_ b o)) l.length cap ∧ Row G w n l b o ∧ (∀ i, i < l.length * n → G.fz b (o + i)) ∧
    (cap = l.length ∨ (l.length ≤ cap ∧ G.pm b = .tip (o + l.length * n) κ ∧ Whole w b (o + cap * n)))

/-- The right to write. -/
def Own (G : Gh) (w : World) (κ : Key) (n : Nat) (l : List (List D)) (v : Value) : Prop :=
  (l = [] ∧ v = .slice none 0 0) ∨ (l = [] ∧ ∃ b o, v = .slice (some (at_ b o)) 0 0) ∨
  ∃ b o cap, v = .slice (some (at_ b o)) l.length cap ∧ Row G w n l b o ∧ l.length ≤ cap ∧ G.pm b = .ex κ ∧ Whole w b (o + cap * n)

def placeV (G : Gh) (w : World) (tmps : Array Value) : Pl → Option Value
  | .s t j => (tmps[t]?).bind fun v => v.cells[j]?
  | .b loc j => match G.bl[loc]? with
    | some (some b) => w.cell? (at_ b j)
    | _ => none

/-- A leaf: what it says of a value. -/
def Leaf (G : Gh) (w : World) (tmps : Array Value) (κ : Key) : D → Value → Prop
  | .undef, _ => True
  | .sl 0 n l, v => Ro G w (.sl 0 n l) v
  | .sl 1 n l, v => Tip G w κ n l v
  | .sl 2 n l, v => Own G w κ n l v
  | .sl _ _ _, _ => False
  | .bor p, v => placeV G w tmps p = some v
  | .ea p n i off, v => ∃ b o len cap, placeV G w tmps p = some (.slice (some (at_ b o)) len cap) ∧ v = .pointer (some (at_ b (o + i * n + off)))
  | .rp l, v => ∃ b o, v = .pointer (some (at_ b o)) ∧ ∃ vs : Nat → Value, ∀ j (h : j < l.length), w.cell? (at_ b (o + j)) = some (vs j) ∧ G.fz b (o + j) ∧ Ro G w l[j] (vs j) ∧ ∀ q, l[j] ≠ .agg q
  | .agg _, _ => False
  | .tup _, _ => False
  | d, v => Ro G w d v

/-- A leaf that borrows nothing. -/
def D.plain : D → Prop
  | .bor _ | .ea .. | .rp _ => False
  | _ => True

/-- A value: a leaf, or some. -/
def Val (G : Gh) (w : World) (tmps : Array Value) (κ : Nat → Key) : D → Value → Prop
  | .agg l, v => ∃ vs, v = .agg vs ∧ vs.size = l.length ∧ ∀ j (h : j < l.length) (h' : j < vs.size), Leaf G w tmps (κ j) l[j] vs[j]
  | d, v => Leaf G w tmps (κ 0) d v

/-- What a leaf borrows; what a value borrows. -/
def D.lbors : D → Pl → Prop
  | .bor p, q => p = q
  | .ea p _ _ _, q => p = q
  | _, _ => False

def D.bors : D → Pl → Prop
  | .agg l, q => ∃ d ∈ l, d.lbors q
  | d, q => d.lbors q

def D.sbors : D → Pl → Prop
  | .tup l, q => ∃ d ∈ l, d.bors q
  | d, q => d.bors q

def Slot (G : Gh) (w : World) (tmps : Array Value) (κ : Nat → Nat → Key) : D → Value → Prop
  | .tup l, v => (∀ p, ¬ (D.tup l).sbors p) ∧ ∃ vs, v = .tuple vs ∧ vs.size = l.length ∧ ∀ i (h : i < l.length) (h' : i < vs.size), Val G w tmps (κ i) l[i] vs[i]
  | d, v => Val G w tmps (κ 0) d v

structure Boxes (G : Gh) (w : World) (bx : List (List D)) : Prop where
  len : G.bl.length = bx.length
  box : ∀ loc b ls, G.bl[loc]? = some (some b) → bx[loc]? = some ls → G.pm b = .var loc ∧ ∃ cs ty, w.heap[b]? = some (.cells cs ty (0, 0)) ∧ cs.size = ls.length ∧
    ∀ j (h : j < ls.length) (h' : j < cs.size), ls[j].plain ∧ Leaf G w #[] (.b loc j) ls[j] cs[j]
  virt : ∀ loc : Nat, bx[loc]? = some [] → G.bl[loc]? = some none
  bare : ∀ loc : Nat, G.bl[loc]? = some none → bx[loc]? = some []

structure Rel (G : Gh) (w : World) (st : St) (tmps : Array Value) : Prop where
  len : st.tm.length = tmps.size
  slot : ∀ t (h : t < st.tm.length) (h' : t < tmps.size), Slot G w tmps (fun i j => .s t i j) st.tm[t] tmps[t]
  ln : ∀ t (h : t < st.tm.length) p, st.tm[t].sbors p → (t, p) ∈ st.ln
  bx : Boxes G w st.bx

/-- What a step leaves alone. -/
structure Evo (base : Nat) (G : Gh) (w : World) (G' : Gh) (w' : World) : Prop where
  os : w'.os = w.os
  tape : w'.tape = w.tape
  output : w'.output = w.output
  size : w.heap.size ≤ w'.heap.size
  fr : ∀ b, b < w.heap.size → G.pm b = .fr → G'.pm b = .fr ∧ w'.heap[b]? = w.heap[b]?
  held : ∀ b m, b < w.heap.size → G.pm b = .held m → G'.pm b = .held m ∧ w'.heap[b]? = w.heap[b]?
  tip : ∀ b m k, b < w.heap.size → G.pm b = .tip m k → ((∃ m' k', m ≤ m' ∧ G'.pm b = .tip m' k') ∨ G'.pm b = .fr) ∧ ∀ i, i < m → w'.cell? (at_ b i) = w.cell? (at_ b i)
  bl : ∀ loc b, loc < base → G.bl[loc]? = some (some b) → G'.bl[loc]? = some (some b)

theorem Evo.refl (base : Nat) (G : Gh) (w : World) : Evo base G w G w :=
  ⟨rfl, rfl, rfl, Nat.le_refl _, fun _ _ h => ⟨h, rfl⟩, fun _ _ _ h => ⟨h, rfl⟩, fun _ m k _ h => ⟨.inl ⟨m, k, Nat.le_refl _, h⟩, fun _ _ => rfl⟩, fun _ _ _ h => h⟩

theorem cell_of_heap {w w' : World} {b : Nat} (h : w'.heap[b]? = w.heap[b]?) (i : Nat) : w'.cell? (at_ b i) = w.cell? (at_ b i) := by
  simp [World.cell?, at_, h]

theorem frozen_of_heap {w w' : World} {b : Nat} (h : w'.heap[b]? = w.heap[b]?) (i : Nat) : w'.frozen? (at_ b i) = w.frozen? (at_ b i) := by
  simp [World.frozen?, at_, h]

theorem lt_of_cell {w : World} {b i : Nat} {v : Value} (h : w.cell? (at_ b i) = some v) : b < w.heap.size := by
  unfold World.cell? at_ at h
  simp only at h
  split at h
  · rename_i c e f hb
    exact (Array.getElem?_eq_some_iff.mp hb).1
  · cases h

theorem Evo.trans {base : Nat} {A B C : Gh} {u v w : World} (h : Evo base A u B v) (k : Evo base B v C w) : Evo base A u C w where
  os := k.os.trans h.os
  tape := k.tape.trans h.tape
  output := k.output.trans h.output
  size := Nat.le_trans h.size k.size
  fr b hb e := by
    obtain ⟨p, q⟩ := h.fr b hb e
    obtain ⟨p', q'⟩ := k.fr b (Nat.lt_of_lt_of_le hb h.size) p
    exact ⟨p', q'.trans q⟩
  held b m hb e := by
    obtain ⟨p, q⟩ := h.held b m hb e
    obtain ⟨p', q'⟩ := k.held b m (Nat.lt_of_lt_of_le hb h.size) p
    exact ⟨p', q'.trans q⟩
  tip b m κ hb e := by
    obtain ⟨p, q⟩ := h.tip b m κ hb e
    have hb' := Nat.lt_of_lt_of_le hb h.size
    rcases p with ⟨m', κ', hm, p⟩ | p
    · obtain ⟨p', q'⟩ := k.tip b m' κ' hb' p
      refine ⟨?_, fun i hi => (q' i (Nat.lt_of_lt_of_le hi hm)).trans (q i hi)⟩
      rcases p' with ⟨m'', κ'', hm', p'⟩ | p'
      · exact .inl ⟨m'', κ'', Nat.le_trans hm hm', p'⟩
      · exact .inr p'
    · obtain ⟨p', q'⟩ := k.fr b hb' p
      exact ⟨.inr p', fun i hi => (cell_of_heap q' i).trans (q i hi)⟩
  bl loc b hl e := k.bl loc b hl (h.bl loc b hl e)

/-- What stays as it is, stays. -/
theorem Evo.cell {base : Nat} {G G' : Gh} {w w' : World} (h : Evo base G w G' w') {b i : Nat} {v : Value} (hc : w.cell? (at_ b i) = some v) (hf : G.fz b i) : w'.cell? (at_ b i) = some v ∧ G'.fz b i := by
  have hb := lt_of_cell hc
  rcases hf with hf | ⟨m, k, hf, hi⟩ | ⟨m, hf, hi⟩
  · obtain ⟨p, q⟩ := h.fr b hb hf
    exact ⟨by rw [cell_of_heap q]; exact hc, .inl p⟩
  · obtain ⟨p, q⟩ := h.tip b m k hb hf
    refine ⟨by rw [q i hi]; exact hc, ?_⟩
    rcases p with ⟨m', κ', hm, p⟩ | p
    · exact .inr (.inl ⟨m', κ', p, Nat.lt_of_lt_of_le hi hm⟩)
    · exact .inl p
  · obtain ⟨p, q⟩ := h.held b m hb hf
    exact ⟨by rw [cell_of_heap q]; exact hc, .inr (.inr ⟨m, p, hi⟩)⟩

/-- What can be told for good is carried from one to the other. -/
structure Keeps (G : Gh) (w : World) (G' : Gh) (w' : World) : Prop where
  cell : ∀ (b i : Nat) (v : Value), w.cell? (at_ b i) = some v → G.fz b i → w'.cell? (at_ b i) = some v ∧ G'.fz b i
  bl : ∀ loc b : Nat, G.bl[loc]? = some (some b) → G'.bl[loc]? = some (some b)

theorem Ro.keep {G G' : Gh} {w w' : World} (h : Keeps G w G' w') {d : D} {v : Value} (hr : Ro G w d v) : Ro G' w' d v := by
  induction hr with
  | int k n => exact .int k n
  | bool b => exact .bool b
  | unk b => exact .unk b
  | str s => exact .str s
  | nilp => exact .nilp
  | nilf => exact .nilf
  | nili => exact .nili
  | ptr loc off b e => exact .ptr loc off b (h.bl _ _ e)
  | fn f a c va vc ha hc h1 h2 hf i1 i2 => exact .fn f a c va vc ha hc i1 i2 hf
  | iface t d v hv ih => exact .iface t d v ih
  | agg l vs hs hv ih => exact .agg l vs hs ih
  | nils n => exact .nils n
  | nila n a cap => exact .nila n a cap
  | sl n l b o cap vs hcap hn hc hv ih =>
    exact .sl n l b o cap vs hcap hn (fun i j hi hj => h.cell _ _ _ (hc i j hi hj).1 (hc i j hi hj).2) ih

/-- What can be told for good stays true, as long as the boxes that it names stay ('n': all below). -/
theorem Ro.evo {base : Nat} {G G' : Gh} {w w' : World} (h : Evo base G w G' w') {d : D} {v : Value} (hr : Ro G w d v) (hl : ∀ loc b : Nat, G.bl[loc]? = some (some b) → G'.bl[loc]? = some (some b)) : Ro G' w' d v :=
  hr.keep ⟨fun _ _ _ hc hf => h.cell hc hf, hl⟩

end Go.PI
end
section
/- How what is told of values is carried from one world to the next, and from one place to another. -/
namespace Go.PI
open Go

/-- From (G, w) to (G', w'): nothing that was there is lost. -/
structure Step (G : Gh) (w : World) (G' : Gh) (w' : World) : Prop where
  evo : Evo 0 G w G' w'
  bl : ∀ (loc b : Nat), G.bl[loc]? = some (some b) → G'.bl[loc]? = some (some b)

theorem Step.keeps {G G' : Gh} {w w' : World} (h : Step G w G' w') : Keeps G w G' w' := ⟨fun _ _ _ hc hf => h.evo.cell hc hf, h.bl⟩

/-- What key κ owned, κ' owns now, as it was. -/
def Moves (G : Gh) (w : World) (G' : Gh) (w' : World) (κ κ' : Key) : Prop :=
  ∀ b, b < w.heap.size → (G.pm b = .ex κ → G'.pm b = .ex κ' ∧ w'.heap[b]? = w.heap[b]?) ∧ (∀ m, G.pm b = .tip m κ → G'.pm b = .tip m κ' ∧ w'.heap[b]? = w.heap[b]?)

theorem Row.stepK {G G' : Gh} {w w' : World} (h : Keeps G w G' w') {n : Nat} {l : List (List D)} {b o : Nat} (hw : w'.heap[b]? = w.heap[b]?) (r : Row G w n l b o) : Row G' w' n l b o := by
  obtain ⟨hn, vs, hc, hv⟩ := r
  exact ⟨hn, vs, fun i j hi hj => by rw [cell_of_heap hw]; exact hc i j hi hj, fun i j hi hj => (hv i j hi hj).keep h⟩

theorem Whole.same {w w' : World} {b n : Nat} (hw : w'.heap[b]? = w.heap[b]?) (h : Whole w b n) : Whole w' b n := by
  obtain ⟨cs, ty, fz, h1, h2, h3⟩ := h
  exact ⟨cs, ty, fz, by rw [hw]; exact h1, h2, fun i hi => by rw [frozen_of_heap hw]; exact h3 i hi⟩

theorem Whole.lt {w : World} {b n : Nat} (h : Whole w b n) : b < w.heap.size := by
  obtain ⟨cs, ty, fz, h1, _⟩ := h
  exact (Array.getElem?_eq_some_iff.mp h1).1

/-- A row whose cells all stay. -/
theorem Row.fixedK {G G' : Gh} {w w' : World} (h : Keeps G w G' w') {n : Nat} {l : List (List D)} {b o : Nat} (hf : ∀ i, i < l.length * n → G.fz b (o + i)) (r : Row G w n l b o) :
    Row G' w' n l b o ∧ ∀ i, i < l.length * n → G'.fz b (o + i) := by
  obtain ⟨hn, vs, hc, hv⟩ := r
  have key : ∀ i j, i < l.length → j < n → i * n + j < l.length * n := fun i j hi hj => by
    have : (i + 1) * n ≤ l.length * n := Nat.mul_le_mul_right n hi
    rw [Nat.add_mul, Nat.one_mul] at this
    omega
  refine ⟨⟨hn, vs, fun i j hi hj => ?_, fun i j hi hj => (hv i j hi hj).keep h⟩, fun i hi => ?_⟩
  · have := h.cell _ _ _ (hc i j hi hj) (by rw [Nat.add_assoc]; exact hf _ (key i j hi hj))
    exact this.1
  · by_cases hn0 : n = 0
    · subst hn0; simp at hi
    have hi' : i / n < l.length := by
      rw [Nat.div_lt_iff_lt_mul (by omega)]; exact hi
    have hj' : i % n < n := Nat.mod_lt _ (by omega)
    have e : o + i / n * n + i % n = o + i := by
      have := Nat.div_add_mod i n
      rw [Nat.mul_comm] at this
      omega
    have := (h.cell _ _ _ (hc (i / n) (i % n) hi' hj') (by rw [e]; exact hf i hi)).2
    rw [e] at this
    exact this

theorem Tip.moveK {G G' : Gh} {w w' : World} (h : Keeps G w G' w') {κ κ' : Key} (m : Moves G w G' w' κ κ') {n : Nat} {l : List (List D)} {v : Value} (t : Tip G w κ n l v) : Tip G' w' κ' n l v := by
  rcases t with t | ⟨b, o, cap, rfl, r, hf, hc⟩
  · exact .inl t
  · obtain ⟨r', hf'⟩ := r.fixedK h hf
    refine .inr ⟨b, o, cap, rfl, r', hf', ?_⟩
    rcases hc with hc | ⟨h1, h2, h3⟩
    · exact .inl hc
    · obtain ⟨p, q⟩ := (m b h3.lt).2 _ h2
      exact .inr ⟨h1, p, h3.same q⟩

theorem Own.moveK {G G' : Gh} {w w' : World} (h : Keeps G w G' w') {κ κ' : Key} (m : Moves G w G' w' κ κ') {n : Nat} {l : List (List D)} {v : Value} (t : Own G w κ n l v) : Own G' w' κ' n l v := by
  rcases t with t | t | ⟨b, o, cap, rfl, r, h1, h2, h3⟩
  · exact .inl t
  · exact .inr (.inl t)
  · obtain ⟨p, q⟩ := (m b h3.lt).1 h2
    exact .inr (.inr ⟨b, o, cap, rfl, r.stepK h q, h1, p, h3.same q⟩)

theorem Leaf.moveK {G G' : Gh} {w w' : World} (h : Keeps G w G' w') {κ κ' : Key} (m : Moves G w G' w' κ κ') {tmps tmps' : Array Value} {d : D} {v : Value}
    (hp : ∀ p, d.lbors p → placeV G' w' tmps' p = placeV G w tmps p) (t : Leaf G w tmps κ d v) : Leaf G' w' tmps' κ' d v := by
  cases d with
  | sl f n l =>
    match f, t with
    | 0, t => exact Ro.keep h t
    | 1, t => exact Tip.moveK h m t
    | 2, t => exact Own.moveK h m t
    | _ + 3, t => exact t.elim
  | bor p => exact (hp p rfl).trans t
  | ea p n i off =>
    obtain ⟨b, o, len, cap, h1, h2⟩ := t
    exact ⟨b, o, len, cap, (hp p rfl).trans h1, h2⟩
  | rp l =>
    obtain ⟨b, o, e, vs, hv⟩ := t
    refine ⟨b, o, e, vs, fun j hj => ?_⟩
    obtain ⟨h1, h2, h3⟩ := hv j hj
    obtain ⟨p, q⟩ := h.cell _ _ _ h1 h2
    exact ⟨p, q, h3.1.keep h, h3.2⟩
  | undef => trivial
  | agg l => exact t.elim
  | tup l => exact t.elim
  | _ => exact Ro.keep h t

theorem val_of {G : Gh} {w : World} {tmps : Array Value} {κ : Nat → Key} {d : D} {v : Value} (h : ∀ l, d ≠ .agg l) : Val G w tmps κ d v ↔ Leaf G w tmps (κ 0) d v := by
  cases d <;> first | exact Iff.rfl | exact absurd rfl (h _)

theorem slot_of {G : Gh} {w : World} {tmps : Array Value} {κ : Nat → Nat → Key} {d : D} {v : Value} (h : ∀ l, d ≠ .tup l) : Slot G w tmps κ d v ↔ Val G w tmps (κ 0) d v := by
  cases d <;> first | exact Iff.rfl | exact absurd rfl (h _)

theorem bors_of {d : D} {p : Pl} (h : ∀ l, d ≠ .agg l) : d.bors p ↔ d.lbors p := by
  cases d <;> first | exact Iff.rfl | exact absurd rfl (h _)

theorem sbors_of {d : D} {p : Pl} (h : ∀ l, d ≠ .tup l) : d.sbors p ↔ d.bors p := by
  cases d <;> first | exact Iff.rfl | exact absurd rfl (h _)

theorem agg_or (d : D) : (∃ l, d = .agg l) ∨ ∀ l, d ≠ .agg l := by
  cases d <;> simp

theorem tup_or (d : D) : (∃ l, d = .tup l) ∨ ∀ l, d ≠ .tup l := by
  cases d <;> simp

theorem Val.moveK {G G' : Gh} {w w' : World} (h : Keeps G w G' w') {κ κ' : Nat → Key} (m : ∀ j, Moves G w G' w' (κ j) (κ' j)) {tmps tmps' : Array Value} {d : D} {v : Value}
    (hp : ∀ p, d.bors p → placeV G' w' tmps' p = placeV G w tmps p) (t : Val G w tmps κ d v) : Val G' w' tmps' κ' d v := by
  rcases agg_or d with ⟨l, rfl⟩ | ha
  · obtain ⟨vs, e, hs, hv⟩ := t
    exact ⟨vs, e, hs, fun j hj hj' => (hv j hj hj').moveK h (m j) fun p hb => hp p ⟨l[j], List.getElem_mem _, hb⟩⟩
  · exact (val_of ha).mpr (((val_of ha).mp t).moveK h (m 0) fun p hb => hp p ((bors_of ha).mpr hb))

theorem Slot.moveK {G G' : Gh} {w w' : World} (h : Keeps G w G' w') {κ κ' : Nat → Nat → Key} (m : ∀ i j, Moves G w G' w' (κ i j) (κ' i j)) {tmps tmps' : Array Value} {d : D} {v : Value}
    (hp : ∀ p, d.sbors p → placeV G' w' tmps' p = placeV G w tmps p) (t : Slot G w tmps κ d v) : Slot G' w' tmps' κ' d v := by
  rcases tup_or d with ⟨l, rfl⟩ | ha
  · obtain ⟨nb, vs, e, hs, hv⟩ := t
    exact ⟨nb, vs, e, hs, fun i hi hi' => (hv i hi hi').moveK h (m i) fun p hb => hp p ⟨l[i], List.getElem_mem _, hb⟩⟩
  · exact (slot_of ha).mpr (((slot_of ha).mp t).moveK h (m 0) fun p hb => hp p ((sbors_of ha).mpr hb))

theorem Row.step {G G' : Gh} {w w' : World} (h : Step G w G' w') {n : Nat} {l : List (List D)} {b o : Nat} (hw : w'.heap[b]? = w.heap[b]?) (r : Row G w n l b o) : Row G' w' n l b o := r.stepK h.keeps hw

theorem Row.fixed {G G' : Gh} {w w' : World} (h : Step G w G' w') {n : Nat} {l : List (List D)} {b o : Nat} (hf : ∀ i, i < l.length * n → G.fz b (o + i)) (r : Row G w n l b o) :
    Row G' w' n l b o ∧ ∀ i, i < l.length * n → G'.fz b (o + i) := r.fixedK h.keeps hf

theorem Tip.move {G G' : Gh} {w w' : World} (h : Step G w G' w') {κ κ' : Key} (m : Moves G w G' w' κ κ') {n : Nat} {l : List (List D)} {v : Value} (t : Tip G w κ n l v) : Tip G' w' κ' n l v := t.moveK h.keeps m

theorem Own.move {G G' : Gh} {w w' : World} (h : Step G w G' w') {κ κ' : Key} (m : Moves G w G' w' κ κ') {n : Nat} {l : List (List D)} {v : Value} (t : Own G w κ n l v) : Own G' w' κ' n l v := t.moveK h.keeps m

theorem Leaf.move {G G' : Gh} {w w' : World} (h : Step G w G' w') {κ κ' : Key} (m : Moves G w G' w' κ κ') {tmps tmps' : Array Value} {d : D} {v : Value}
    (hp : ∀ p, d.lbors p → placeV G' w' tmps' p = placeV G w tmps p) (t : Leaf G w tmps κ d v) : Leaf G' w' tmps' κ' d v := t.moveK h.keeps m hp

theorem Val.move {G G' : Gh} {w w' : World} (h : Step G w G' w') {κ κ' : Nat → Key} (m : ∀ j, Moves G w G' w' (κ j) (κ' j)) {tmps tmps' : Array Value} {d : D} {v : Value}
    (hp : ∀ p, d.bors p → placeV G' w' tmps' p = placeV G w tmps p) (t : Val G w tmps κ d v) : Val G' w' tmps' κ' d v := t.moveK h.keeps m hp

theorem Slot.move {G G' : Gh} {w w' : World} (h : Step G w G' w') {κ κ' : Nat → Nat → Key} (m : ∀ i j, Moves G w G' w' (κ i j) (κ' i j)) {tmps tmps' : Array Value} {d : D} {v : Value}
    (hp : ∀ p, d.sbors p → placeV G' w' tmps' p = placeV G w tmps p) (t : Slot G w tmps κ d v) : Slot G' w' tmps' κ' d v := t.moveK h.keeps m hp

end Go.PI
end
section
/- A place gets another value while memory stays: the relation is carried on. -/
namespace Go.PI
open Go

theorem Moves.refl_of {G : Gh} {w : World} (κ : Key) : Moves G w G w κ κ := fun _ _ => ⟨fun h => ⟨h, rfl⟩, fun _ h => ⟨h, rfl⟩⟩

theorem getD_lt {α : Type} {l : List α} {i : Nat} {d : α} (h : i < l.length) : l.getD i d = l[i] := by
  simp [List.getD, List.getElem?_eq_getElem h]

theorem placeV_step {G G' : Gh} {w w' : World} {tmps : Array Value} (hb : G'.bl = G.bl) (hw : ∀ (loc b : Nat), G.bl[loc]? = some (some b) → w'.heap[b]? = w.heap[b]?) (p : Pl) : placeV G' w' tmps p = placeV G w tmps p := by
  cases p with
  | s t j => rfl
  | b loc j =>
    simp only [placeV, hb]
    split
    · rename_i b e
      exact cell_of_heap (hw loc b e) j
    · rfl

theorem lbors_plain {d : D} (h : d.plain) (p : Pl) : ¬ d.lbors p := by
  cases d <;> simp_all [D.plain, D.lbors]

theorem Leaf.plain_tmps {G : Gh} {w : World} {tmps tmps' : Array Value} {κ : Key} {d : D} {v : Value} (hp : d.plain) (h : Leaf G w tmps κ d v) : Leaf G w tmps' κ d v := by
  cases d with
  | bor p => exact hp.elim
  | ea p n i off => exact hp.elim
  | rp l => exact hp.elim
  | sl f n l =>
    match f, h with
    | 0, h => exact h
    | 1, h => exact h
    | 2, h => exact h
    | _ + 3, h => exact h.elim
  | _ => exact h

/-- The boxes, while memory and the boxes' places stay. -/
theorem Boxes.keep {G G' : Gh} {w w' : World} {bx : List (List D)} (h : Step G w G' w') (hb : G'.bl = G.bl) (hv : ∀ (loc b : Nat), G.bl[loc]? = some (some b) → G'.pm b = G.pm b ∧ w'.heap[b]? = w.heap[b]?)
    (m : ∀ loc j, Moves G w G' w' (.b loc j) (.b loc j)) (r : Boxes G w bx) : Boxes G' w' bx := by
  refine ⟨by rw [hb]; exact r.len, fun loc b ls e1 e2 => ?_, fun loc e => by rw [hb]; exact r.virt loc e, fun loc e => r.bare loc (by rw [← hb]; exact e)⟩
  rw [hb] at e1
  obtain ⟨h1, cs, ty, h2, h3, h4⟩ := r.box loc b ls e1 e2
  obtain ⟨k1, k2⟩ := hv loc b e1
  refine ⟨k1.trans h1, cs, ty, k2.trans h2, h3, fun j hj hj' => ?_⟩
  obtain ⟨q, h5⟩ := h4 j hj hj'
  exact ⟨q, h5.move h (m loc j) fun p hb => (lbors_plain q p hb).elim⟩

theorem set_tm_get (tm : List D) (t u : Nat) (d : D) (h : u < (tm.set t d).length) : (tm.set t d)[u] = if t = u then d else tm[u]'(by simpa using h) := by
  simp [List.getElem_set]

theorem St.get_lt {st : St} {t : Nat} (h : t < st.tm.length) : st.get t = st.tm[t] := getD_lt h

theorem leaf_slice {G : Gh} {w : World} {tmps : Array Value} {κ : Key} {f n : Nat} {l : List (List D)} {v : Value} (h : Leaf G w tmps κ (.sl f n l) v) : ∃ a len cap, v = .slice a len cap := by
  match f, h with
  | 0, h => cases h <;> exact ⟨_, _, _, rfl⟩
  | 1, h => rcases h with ⟨_, rfl⟩ | ⟨_, _, _, rfl, _⟩ <;> exact ⟨_, _, _, rfl⟩
  | 2, h => rcases h with ⟨_, rfl⟩ | ⟨_, _, _, rfl⟩ | ⟨_, _, _, rfl, _⟩ <;> exact ⟨_, _, _, rfl⟩
  | _ + 3, h => exact h.elim

/-- A leaf of a value that is put in place of another: memory's value stays. -/
theorem Val.setLeaf {G G' : Gh} {w w' : World} {tmps tmps' : Array Value} {κ : Nat → Key} {d x : D} {v : Value} {j f n : Nat} {l : List (List D)} (h : Step G w G' w')
    (m : ∀ i, i ≠ j → Moves G w G' w' (κ i) (κ i)) (hp : ∀ p, d.bors p → placeV G' w' tmps' p = placeV G w tmps p)
    (hx : ∀ u, v.cells[j]? = some u → Leaf G' w' tmps' (κ j) x u) (hxa : ∀ l, x ≠ .agg l) (hin : d.leaf j = .sl f n l) (t : Val G w tmps κ d v) : Val G' w' tmps' κ (d.setLeaf j x) v := by
  rcases agg_or d with ⟨l, rfl⟩ | ha
  · obtain ⟨vs, rfl, hs, hv⟩ := t
    refine ⟨vs, rfl, by simp [hs], fun i hi hi' => ?_⟩
    rw [List.getElem_set]
    split
    · rename_i e
      subst e
      exact hx _ (by simp [Value.cells, hi'])
    · rename_i e
      have hi2 : i < l.length := by simpa using hi
      exact (hv i hi2 hi').move h (m i fun e' => e e'.symm) fun p hb => hp p ⟨l[i], List.getElem_mem _, hb⟩
  · cases j with
    | zero =>
      have e : d.setLeaf 0 x = x := by cases d <;> first | rfl | exact absurd rfl (ha _)
      have e2 : d.leaf 0 = d := by cases d <;> first | rfl | exact absurd rfl (ha _)
      rw [e2] at hin
      subst hin
      rw [e]
      obtain ⟨a, len, cap, rfl⟩ := leaf_slice ((val_of ha).mp t)
      exact (val_of hxa).mpr (hx _ rfl)
    | succ j =>
      exfalso
      cases d <;> first | (simp [D.leaf] at hin; done) | exact absurd rfl (ha _)

/-- What place p's leaf says. -/
theorem Rel.at {G : Gh} {w : World} {st : St} {tmps : Array Value} (r : Rel G w st tmps) {p : Pl} {f n : Nat} {l : List (List D)} (h : st.at p = .sl f n l) {v : Value} (hv : placeV G w tmps p = some v) : Leaf G w tmps p.key (.sl f n l) v := by
  cases p with
  | s t j =>
    simp only [St.at, St.get] at h
    by_cases ht : t < st.tm.length
    · rw [getD_lt ht] at h
      have ht' : t < tmps.size := by rw [← r.len]; exact ht
      have hs := r.slot t ht ht'
      simp only [placeV, Array.getElem?_eq_getElem ht', Option.bind_some] at hv
      generalize st.tm[t] = d at *
      generalize tmps[t] = u at *
      rcases tup_or d with ⟨q, rfl⟩ | htu
      · cases j <;> cases h
      have hs := (slot_of htu).mp hs
      rcases agg_or d with ⟨q, rfl⟩ | ha
      · obtain ⟨vs, rfl, hl, hq⟩ := hs
        simp only [D.leaf] at h
        by_cases hj : j < q.length
        · rw [getD_lt hj] at h
          have hj' : j < vs.size := by rw [hl]; exact hj
          simp only [Value.cells, Array.getElem?_eq_getElem hj', Option.some.injEq] at hv
          have := hq j hj hj'
          rw [h, hv] at this
          exact this
        · rw [List.getD, List.getElem?_eq_none (by omega)] at h
          cases h
      · cases j with
        | zero =>
          have e2 : d.leaf 0 = d := by cases d <;> first | rfl | exact absurd rfl (ha _)
          rw [e2] at h
          subst h
          have hl := (val_of ha).mp hs
          obtain ⟨a, len, cap, rfl⟩ := leaf_slice hl
          simp only [Value.cells] at hv
          cases hv
          exact hl
        | succ j => cases d <;> first | (simp [D.leaf] at h; done) | exact absurd rfl (ha _)
    · rw [List.getD, List.getElem?_eq_none (by omega)] at h
      cases j <;> cases h
  | b loc j =>
    simp only [placeV] at hv
    split at hv
    · rename_i b e
      simp only [St.at, St.box] at h
      have hl : loc < st.bx.length := by
        rw [← r.bx.len]
        exact (List.getElem?_eq_some_iff.mp e).1
      rw [getD_lt hl] at h
      obtain ⟨h1, cs, ty, h2, h3, h4⟩ := r.bx.box loc b st.bx[loc] e (List.getElem?_eq_getElem hl)
      by_cases hj : j < st.bx[loc].length
      · rw [getD_lt hj] at h
        have hj' : j < cs.size := by rw [h3]; exact hj
        obtain ⟨q, h5⟩ := h4 j hj hj'
        have : v = cs[j] := by
          simp only [World.cell?, at_, h2] at hv
          simpa [hj'] using hv.symm
        subst this
        rw [h] at h5
        exact h5.plain_tmps trivial
      · rw [List.getD, List.getElem?_eq_none (by omega)] at h
        cases h
    · cases hv

theorem bors_setLeaf {d x : D} {j f n : Nat} {l : List (List D)} (hx : x.plain) (hxa : ∀ l, x ≠ .agg l) (hin : d.leaf j = .sl f n l) {p : Pl} (h : (d.setLeaf j x).bors p) : d.bors p := by
  rcases agg_or d with ⟨q, rfl⟩ | ha
  · obtain ⟨e, he, hb⟩ := h
    rcases List.mem_or_eq_of_mem_set he with he | rfl
    · exact ⟨e, he, hb⟩
    · exact (lbors_plain hx p hb).elim
  · cases j with
    | zero =>
      have e : d.setLeaf 0 x = x := by cases d <;> first | rfl | exact absurd rfl (ha _)
      rw [e] at h
      exact (lbors_plain hx p ((bors_of hxa).mp h)).elim
    | succ j => exfalso; cases d <;> first | (simp [D.leaf] at hin; done) | exact absurd rfl (ha _)

theorem setLeaf_tup {d x : D} {j f n : Nat} {l : List (List D)} (hxt : ∀ l, x ≠ .tup l) (hin : d.leaf j = .sl f n l) : ∀ l, d.setLeaf j x ≠ .tup l := by
  intro q
  rcases agg_or d with ⟨r, rfl⟩ | ha
  · simp [D.setLeaf]
  · cases j with
    | zero =>
      have e : d.setLeaf 0 x = x := by cases d <;> first | rfl | exact absurd rfl (ha _)
      rw [e]; exact hxt q
    | succ j => exfalso; cases d <;> first | (simp [D.leaf] at hin; done) | exact absurd rfl (ha _)

/-- What stays of the state when a place gets another leaf. -/
theorem Rel.put {G G' : Gh} {w w' : World} {st : St} {tmps : Array Value} (base : Nat) (r : Rel G w st tmps) {p : Pl} {f n : Nat} {l : List (List D)} {x : D} (h : st.at p = .sl f n l)
    (stp : Step G w G' w') (hb : G'.bl = G.bl) (hv : ∀ (loc b : Nat), G.bl[loc]? = some (some b) → G'.pm b = G.pm b ∧ w'.heap[b]? = w.heap[b]?)
    (m : ∀ κ, κ ≠ p.key → Moves G w G' w' κ κ) (hx : ∀ v, placeV G w tmps p = some v → Leaf G' w' tmps p.key x v) (hxp : x.plain) (hxa : ∀ l, x ≠ .agg l) (hxt : ∀ l, x ≠ .tup l) : Rel G' w' (st.put base p x) tmps := by
  have hpl := placeV_step (tmps := tmps) hb (fun loc b e => (hv loc b e).2)
  cases p with
  | s t j =>
    have ht : t < st.tm.length := by
      rcases Nat.lt_or_ge t st.tm.length with ht | ht
      · exact ht
      · simp only [St.at, St.get] at h
        rw [List.getD, List.getElem?_eq_none ht] at h
        cases j <;> cases h
    have hin : st.tm[t].leaf j = .sl f n l := by simpa only [St.at, St.get, getD_lt ht] using h
    have htu : ∀ q, st.tm[t] ≠ .tup q := by
      intro q e; rw [e] at hin; cases j <;> cases hin
    have ht' : t < tmps.size := by rw [← r.len]; exact ht
    refine ⟨by simpa [St.put] using r.len, fun u hu hu' => ?_, fun u hu q hq => ?_, r.bx.keep stp hb hv fun loc i => m _ (by simp [Pl.key])⟩
    · simp only [St.put, St.get_lt ht] at hu ⊢
      rw [set_tm_get]
      split
      · rename_i e
        subst e
        refine (slot_of (setLeaf_tup hxt hin)).mpr ?_
        refine Val.setLeaf stp (fun i hi => m _ ?_) (fun q _ => hpl q) (fun v hv => hx v ?_) hxa hin ((slot_of htu).mp (r.slot t ht ht'))
        · simpa [Pl.key] using hi
        · simp only [placeV, Array.getElem?_eq_getElem ht', Option.bind_some]; exact hv
      · rename_i e
        have hu2 : u < st.tm.length := by simpa using hu
        exact (r.slot u hu2 hu').move stp (fun i k => m _ (by simp [Pl.key]; intro e'; exact absurd e'.symm e)) fun q _ => hpl q
    · simp only [St.put, St.get_lt ht] at hu hq ⊢
      rw [set_tm_get] at hq
      split at hq
      · rename_i e
        subst e
        rw [sbors_of (setLeaf_tup hxt hin)] at hq
        exact r.ln t ht q ((sbors_of htu).mpr (bors_setLeaf hxp hxa hin hq))
      · exact r.ln u (by simpa using hu) q hq
  | b loc j =>
    simp only [St.at, St.box] at h
    have hl : loc < st.bx.length := by
      rcases Nat.lt_or_ge loc st.bx.length with hl | hl
      · exact hl
      · have e : st.bx.getD loc [] = [] := by simp [List.getD, List.getElem?_eq_none hl]
        rw [e] at h; cases h
    rw [getD_lt hl] at h
    have hj : j < st.bx[loc].length := by
      rcases Nat.lt_or_ge j st.bx[loc].length with hj | hj
      · exact hj
      · rw [List.getD, List.getElem?_eq_none hj] at h; cases h
    refine ⟨by simpa [St.put] using r.len, fun u hu hu' => ?_, fun u hu q hq => r.ln u hu q hq, ⟨by rw [hb]; simpa [St.put] using r.bx.len, fun loc' b ls e1 e2 => ?_, fun loc' e => ?_, fun loc' e => ?_⟩⟩
    · exact (r.slot u hu hu').move stp (fun i k => m _ (by simp [Pl.key])) fun q _ => hpl q
    · rw [hb] at e1
      simp only [St.put, St.box, getD_lt hl] at e2
      obtain ⟨k1, k2⟩ := hv loc' b e1
      by_cases e : loc = loc'
      · subst e
        rw [List.getElem?_set_self hl] at e2
        obtain rfl := (Option.some.inj e2).symm
        obtain ⟨h1, cs, ty, h2, h3, h4⟩ := r.bx.box loc b _ e1 (List.getElem?_eq_getElem hl)
        refine ⟨k1.trans h1, cs, ty, k2.trans h2, by simpa using h3, fun i hi hi' => ?_⟩
        have hi2 : i < st.bx[loc].length := by simpa using hi
        rw [List.getElem_set]
        split
        · rename_i e
          subst e
          refine ⟨hxp, (hx cs[j] ?_).plain_tmps hxp⟩
          simp [placeV, e1, World.cell?, at_, h2, hi']
        · rename_i e
          obtain ⟨q, h5⟩ := h4 i hi2 hi'
          exact ⟨q, h5.move stp (m _ (by simp [Pl.key]; intro e'; exact absurd e'.symm e)) fun p hb => (lbors_plain q p hb).elim⟩
      · rw [List.getElem?_set_ne e] at e2
        obtain ⟨h1, cs, ty, h2, h3, h4⟩ := r.bx.box loc' b ls e1 e2
        refine ⟨k1.trans h1, cs, ty, k2.trans h2, h3, fun i hi hi' => ?_⟩
        obtain ⟨q, h5⟩ := h4 i hi hi'
        exact ⟨q, h5.move stp (m _ (by simp [Pl.key]; intro e'; exact absurd e'.symm e)) fun p hb => (lbors_plain q p hb).elim⟩
    · rw [hb]
      refine r.bx.virt loc' ?_
      simp only [St.put, St.box, getD_lt hl] at e
      by_cases e' : loc = loc'
      · subst e'
        rw [List.getElem?_set_self hl] at e
        have := congrArg List.length (Option.some.inj e)
        simp at this
        rw [this] at hj
        simp at hj
      · rwa [List.getElem?_set_ne e'] at e
    · rw [hb] at e
      have e2 := r.bx.bare loc' e
      simp only [St.put, St.box, getD_lt hl]
      by_cases e' : loc = loc'
      · subst e'
        rw [List.getElem?_eq_getElem hl] at e2
        rw [Option.some.inj e2] at hj
        simp at hj
      · rwa [List.getElem?_set_ne e']

end Go.PI
end
