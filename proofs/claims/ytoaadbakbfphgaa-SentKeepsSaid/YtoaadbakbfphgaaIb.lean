/- The pure interpreter's values against memory: who may write which block, what a value reads as, and what a step must leave alone. -/
import Derived.Test.YtoaadbakbfphgaaIa
namespace Go.PI
open Go

inductive Key where
  | s (t i j : Nat)
  | b (loc j : Nat)
  | r (i j : Nat)
  deriving DecidableEq

def Pl.key : Pl → Key
  | .s t j => .s t 0 j
  | .b loc j => .b loc j

/-- Who may write a block: nobody; a box's block; from cell m on, whoever holds the slice at k; wholly, the slice at k; somebody else (the first m cells stay for good). -/
inductive Perm where
  | fr
  | var (loc : Nat)
  | tip (m : Nat) (k : Key)
  | ex (k : Key)
  | held (m : Nat)

structure Gh where
  bl : List (Option Nat)
  pm : Nat → Perm

/-- Cell i of block b stays as it is. -/
def Gh.fz (G : Gh) (b i : Nat) : Prop := G.pm b = .fr ∨ (∃ m k, G.pm b = .tip m k ∧ i < m) ∨ ∃ m, G.pm b = .held m ∧ i < m

def at_ (b o : Nat) : Addr := ⟨b, o, none⟩

inductive Ro (G : Gh) (w : World) : D → Value → Prop
  | int (k : IntKind) (n : Int) : Ro G w (.int k n) (.int k n)
  | bool (b : Bool) : Ro G w (.bool b) (.bool b)
  | unk (b : Bool) : Ro G w .unk (.bool b)
  | str (s : ByteArray) : Ro G w (.str s) (.string s)
  | nilp : Ro G w .nilp (.pointer none)
  | nilf : Ro G w .nilf .nilFunc
  | nili : Ro G w .nili .nilIface
  | ptr (loc off b : Nat) (h : G.bl[loc]? = some (some b)) : Ro G w (.ptr loc off) (.pointer (some (at_ b off)))
  | fn (f : Fn) (a c : List D) (va vc : Array Value) (ha : va.size = a.length) (hc : vc.size = c.length)
      (h1 : ∀ i (h : i < a.length) (h' : i < va.size), Ro G w a[i] va[i]) (h2 : ∀ i (h : i < c.length) (h' : i < vc.size), Ro G w c[i] vc[i]) (hf : ∀ d ∈ a ++ c, ∀ l, d = .agg l → ∀ e ∈ l, ∀ q, e ≠ .agg q) : Ro G w (.fn f a c) (.func f va vc)
  | iface (t : TypeId) (d : D) (v : Value) (h : Ro G w d v) : Ro G w (.iface t d) (.iface t v)
  | agg (l : List D) (vs : Array Value) (hs : vs.size = l.length) (h : ∀ i (h : i < l.length) (h' : i < vs.size), Ro G w l[i] vs[i]) : Ro G w (.agg l) (.agg vs)
  | nils (n : Nat) : Ro G w (.sl 0 n []) (.slice none 0 0)
  | sl (n : Nat) (l : List (List D)) (b o cap : Nat) (vs : Nat → Nat → Value) (hcap : l.length ≤ cap) (hn : ∀ x ∈ l, x.length = n ∧ ∀ d ∈ x, ∀ q, d ≠ .agg q)
      (hc : ∀ i j, i < l.length → j < n → w.cell? (at_ b (o + i * n + j)) = some (vs i j) ∧ G.fz b (o + i * n + j))
      (h : ∀ i j (hi : i < l.length) (hj : j < l[i].length), Ro G w l[i][j] (vs i j)) : Ro G w (.sl 0 n l) (.slice (some (at_ b o)) l.length cap)

/-- A slice's value over elements in block b from o on, whoever may write them. -/
structure Row (G : Gh) (w : World) (n : Nat) (l : List (List D)) (b o : Nat) : Prop where
  hn : ∀ x ∈ l, x.length = n ∧ ∀ d ∈ x, ∀ q, d ≠ .agg q
  row : ∃ vs : Nat → Nat → Value, (∀ i j, i < l.length → j < n → w.cell? (at_ b (o + i * n + j)) = some (vs i j)) ∧ ∀ i j (hi : i < l.length) (hj : j < l[i].length), Ro G w l[i][j] (vs i j)

/-- The block of a slice's row: all cells there, none frozen; at least as many as its capacity asks for. -/
def Whole (w : World) (b upto : Nat) : Prop := ∃ cs ty fz, w.heap[b]? = some (.cells cs ty fz) ∧ upto ≤ cs.size ∧ ∀ i, i < cs.size → w.frozen? (at_ b i) = false

/-- The right to append. -/
def Tip (G : Gh) (w : World) (κ : Key) (n : Nat) (l : List (List D)) (v : Value) : Prop :=
  (l = [] ∧ v = .slice none 0 0) ∨
  ∃ b o cap, v = .slice (some (at_ b o)) l.length cap ∧ Row G w n l b o ∧ (∀ i, i < l.length * n → G.fz b (o + i)) ∧
    (cap = l.length ∨ (l.length ≤ cap ∧ G.pm b = .tip (o + l.length * n) κ ∧ Whole w b (o + cap * n)))

/-- The right to write. -/
def Own (G : Gh) (w : World) (κ : Key) (n : Nat) (l : List (List D)) (v : Value) : Prop :=
  (l = [] ∧ v = .slice none 0 0) ∨ (l = [] ∧ ∃ b o, v = .slice (some (at_ b o)) 0 0) ∨
  ∃ b o cap, v = .slice (some (at_ b o)) l.length cap ∧ Row G w n l b o ∧ l.length ≤ cap ∧ G.pm b = .ex κ ∧ Whole w b (o + cap * n)

def placeV (G : Gh) (w : World) (tmps : Array Value) : Pl → Option Value
  | .s t j => (tmps[t]?).bind fun v => v.cells[j]?
  | .b loc j => match G.bl[loc]? with
    | some (some b) => w.cell? (at_ b j)
    | _ => none

/-- A leaf: what it says of a value. -/
def Leaf (G : Gh) (w : World) (tmps : Array Value) (κ : Key) : D → Value → Prop
  | .undef, _ => True
  | .sl 0 n l, v => Ro G w (.sl 0 n l) v
  | .sl 1 n l, v => Tip G w κ n l v
  | .sl 2 n l, v => Own G w κ n l v
  | .sl _ _ _, _ => False
  | .bor p, v => placeV G w tmps p = some v
  | .ea p n i off, v => ∃ b o len cap, placeV G w tmps p = some (.slice (some (at_ b o)) len cap) ∧ v = .pointer (some (at_ b (o + i * n + off)))
  | .rp l, v => ∃ b o, v = .pointer (some (at_ b o)) ∧ ∃ vs : Nat → Value, ∀ j (h : j < l.length), w.cell? (at_ b (o + j)) = some (vs j) ∧ G.fz b (o + j) ∧ Ro G w l[j] (vs j) ∧ ∀ q, l[j] ≠ .agg q
  | .agg _, _ => False
  | .tup _, _ => False
  | d, v => Ro G w d v

/-- A leaf that borrows nothing. -/
def D.plain : D → Prop
  | .bor _ | .ea .. | .rp _ => False
  | _ => True

/-- A value: a leaf, or some. -/
def Val (G : Gh) (w : World) (tmps : Array Value) (κ : Nat → Key) : D → Value → Prop
  | .agg l, v => ∃ vs, v = .agg vs ∧ vs.size = l.length ∧ ∀ j (h : j < l.length) (h' : j < vs.size), Leaf G w tmps (κ j) l[j] vs[j]
  | d, v => Leaf G w tmps (κ 0) d v

/-- What a leaf borrows; what a value borrows. -/
def D.lbors : D → Pl → Prop
  | .bor p, q => p = q
  | .ea p _ _ _, q => p = q
  | _, _ => False

def D.bors : D → Pl → Prop
  | .agg l, q => ∃ d ∈ l, d.lbors q
  | d, q => d.lbors q

def D.sbors : D → Pl → Prop
  | .tup l, q => ∃ d ∈ l, d.bors q
  | d, q => d.bors q

def Slot (G : Gh) (w : World) (tmps : Array Value) (κ : Nat → Nat → Key) : D → Value → Prop
  | .tup l, v => (∀ p, ¬ (D.tup l).sbors p) ∧ ∃ vs, v = .tuple vs ∧ vs.size = l.length ∧ ∀ i (h : i < l.length) (h' : i < vs.size), Val G w tmps (κ i) l[i] vs[i]
  | d, v => Val G w tmps (κ 0) d v

structure Boxes (G : Gh) (w : World) (bx : List (List D)) : Prop where
  len : G.bl.length = bx.length
  box : ∀ loc b ls, G.bl[loc]? = some (some b) → bx[loc]? = some ls → G.pm b = .var loc ∧ ∃ cs ty, w.heap[b]? = some (.cells cs ty (0, 0)) ∧ cs.size = ls.length ∧
    ∀ j (h : j < ls.length) (h' : j < cs.size), ls[j].plain ∧ Leaf G w #[] (.b loc j) ls[j] cs[j]
  virt : ∀ loc : Nat, bx[loc]? = some [] → G.bl[loc]? = some none
  bare : ∀ loc : Nat, G.bl[loc]? = some none → bx[loc]? = some []

structure Rel (G : Gh) (w : World) (st : St) (tmps : Array Value) : Prop where
  len : st.tm.length = tmps.size
  slot : ∀ t (h : t < st.tm.length) (h' : t < tmps.size), Slot G w tmps (fun i j => .s t i j) st.tm[t] tmps[t]
  ln : ∀ t (h : t < st.tm.length) p, st.tm[t].sbors p → (t, p) ∈ st.ln
  bx : Boxes G w st.bx

/-- What a step leaves alone. -/
structure Evo (base : Nat) (G : Gh) (w : World) (G' : Gh) (w' : World) : Prop where
  os : w'.os = w.os
  tape : w'.tape = w.tape
  output : w'.output = w.output
  size : w.heap.size ≤ w'.heap.size
  fr : ∀ b, b < w.heap.size → G.pm b = .fr → G'.pm b = .fr ∧ w'.heap[b]? = w.heap[b]?
  held : ∀ b m, b < w.heap.size → G.pm b = .held m → G'.pm b = .held m ∧ w'.heap[b]? = w.heap[b]?
  tip : ∀ b m k, b < w.heap.size → G.pm b = .tip m k → ((∃ m' k', m ≤ m' ∧ G'.pm b = .tip m' k') ∨ G'.pm b = .fr) ∧ ∀ i, i < m → w'.cell? (at_ b i) = w.cell? (at_ b i)
  bl : ∀ loc b, loc < base → G.bl[loc]? = some (some b) → G'.bl[loc]? = some (some b)

theorem Evo.refl (base : Nat) (G : Gh) (w : World) : Evo base G w G w :=
  ⟨rfl, rfl, rfl, Nat.le_refl _, fun _ _ h => ⟨h, rfl⟩, fun _ _ _ h => ⟨h, rfl⟩, fun _ m k _ h => ⟨.inl ⟨m, k, Nat.le_refl _, h⟩, fun _ _ => rfl⟩, fun _ _ _ h => h⟩

theorem cell_of_heap {w w' : World} {b : Nat} (h : w'.heap[b]? = w.heap[b]?) (i : Nat) : w'.cell? (at_ b i) = w.cell? (at_ b i) := by
  simp [World.cell?, at_, h]

theorem frozen_of_heap {w w' : World} {b : Nat} (h : w'.heap[b]? = w.heap[b]?) (i : Nat) : w'.frozen? (at_ b i) = w.frozen? (at_ b i) := by
  simp [World.frozen?, at_, h]

theorem lt_of_cell {w : World} {b i : Nat} {v : Value} (h : w.cell? (at_ b i) = some v) : b < w.heap.size := by
  unfold World.cell? at_ at h
  simp only at h
  split at h
  · rename_i c e f hb
    exact (Array.getElem?_eq_some_iff.mp hb).1
  · cases h

theorem Evo.trans {base : Nat} {A B C : Gh} {u v w : World} (h : Evo base A u B v) (k : Evo base B v C w) : Evo base A u C w where
  os := k.os.trans h.os
  tape := k.tape.trans h.tape
  output := k.output.trans h.output
  size := Nat.le_trans h.size k.size
  fr b hb e := by
    obtain ⟨p, q⟩ := h.fr b hb e
    obtain ⟨p', q'⟩ := k.fr b (Nat.lt_of_lt_of_le hb h.size) p
    exact ⟨p', q'.trans q⟩
  held b m hb e := by
    obtain ⟨p, q⟩ := h.held b m hb e
    obtain ⟨p', q'⟩ := k.held b m (Nat.lt_of_lt_of_le hb h.size) p
    exact ⟨p', q'.trans q⟩
  tip b m κ hb e := by
    obtain ⟨p, q⟩ := h.tip b m κ hb e
    have hb' := Nat.lt_of_lt_of_le hb h.size
    rcases p with ⟨m', κ', hm, p⟩ | p
    · obtain ⟨p', q'⟩ := k.tip b m' κ' hb' p
      refine ⟨?_, fun i hi => (q' i (Nat.lt_of_lt_of_le hi hm)).trans (q i hi)⟩
      rcases p' with ⟨m'', κ'', hm', p'⟩ | p'
      · exact .inl ⟨m'', κ'', Nat.le_trans hm hm', p'⟩
      · exact .inr p'
    · obtain ⟨p', q'⟩ := k.fr b hb' p
      exact ⟨.inr p', fun i hi => (cell_of_heap q' i).trans (q i hi)⟩
  bl loc b hl e := k.bl loc b hl (h.bl loc b hl e)

/-- What stays as it is, stays. -/
theorem Evo.cell {base : Nat} {G G' : Gh} {w w' : World} (h : Evo base G w G' w') {b i : Nat} {v : Value} (hc : w.cell? (at_ b i) = some v) (hf : G.fz b i) : w'.cell? (at_ b i) = some v ∧ G'.fz b i := by
  have hb := lt_of_cell hc
  rcases hf with hf | ⟨m, k, hf, hi⟩ | ⟨m, hf, hi⟩
  · obtain ⟨p, q⟩ := h.fr b hb hf
    exact ⟨by rw [cell_of_heap q]; exact hc, .inl p⟩
  · obtain ⟨p, q⟩ := h.tip b m k hb hf
    refine ⟨by rw [q i hi]; exact hc, ?_⟩
    rcases p with ⟨m', κ', hm, p⟩ | p
    · exact .inr (.inl ⟨m', κ', p, Nat.lt_of_lt_of_le hi hm⟩)
    · exact .inl p
  · obtain ⟨p, q⟩ := h.held b m hb hf
    exact ⟨by rw [cell_of_heap q]; exact hc, .inr (.inr ⟨m, p, hi⟩)⟩

/-- What can be told for good is carried from one to the other. -/
structure Keeps (G : Gh) (w : World) (G' : Gh) (w' : World) : Prop where
  cell : ∀ (b i : Nat) (v : Value), w.cell? (at_ b i) = some v → G.fz b i → w'.cell? (at_ b i) = some v ∧ G'.fz b i
  bl : ∀ loc b : Nat, G.bl[loc]? = some (some b) → G'.bl[loc]? = some (some b)

theorem Ro.keep {G G' : Gh} {w w' : World} (h : Keeps G w G' w') {d : D} {v : Value} (hr : Ro G w d v) : Ro G' w' d v := by
  induction hr with
  | int k n => exact .int k n
  | bool b => exact .bool b
  | unk b => exact .unk b
  | str s => exact .str s
  | nilp => exact .nilp
  | nilf => exact .nilf
  | nili => exact .nili
  | ptr loc off b e => exact .ptr loc off b (h.bl _ _ e)
  | fn f a c va vc ha hc h1 h2 hf i1 i2 => exact .fn f a c va vc ha hc i1 i2 hf
  | iface t d v hv ih => exact .iface t d v ih
  | agg l vs hs hv ih => exact .agg l vs hs ih
  | nils n => exact .nils n
  | sl n l b o cap vs hcap hn hc hv ih =>
    exact .sl n l b o cap vs hcap hn (fun i j hi hj => h.cell _ _ _ (hc i j hi hj).1 (hc i j hi hj).2) ih

/-- What can be told for good stays true, as long as the boxes that it names stay ('n': all below). -/
theorem Ro.evo {base : Nat} {G G' : Gh} {w w' : World} (h : Evo base G w G' w') {d : D} {v : Value} (hr : Ro G w d v) (hl : ∀ loc b : Nat, G.bl[loc]? = some (some b) → G'.bl[loc]? = some (some b)) : Ro G' w' d v :=
  hr.keep ⟨fun _ _ _ hc hf => h.cell hc hf, hl⟩

end Go.PI
