/- Rights that are given up, handed on, taken: memory stays. -/
import Derived.Test.YtoaadbakbfphgaaId
namespace Go.PI
open Go

def Gh.grant (G : Gh) (b : Nat) (q : Perm) : Gh := { G with pm := fun x => if x = b then q else G.pm x }

theorem grant_self (G : Gh) (b : Nat) (q : Perm) : (G.grant b q).pm b = q := by simp [Gh.grant]
theorem grant_ne (G : Gh) {b x : Nat} (q : Perm) (h : x ≠ b) : (G.grant b q).pm x = G.pm x := by simp [Gh.grant, h]

/-- A block that may be written gets any right; one that may be appended to keeps what is fixed. -/
def Perm.may (p q : Perm) : Prop := (∃ κ, p = .ex κ) ∨ (∃ l, p = .var l) ∨ (∃ m κ, p = .tip m κ ∧ (q = .fr ∨ ∃ m' κ', m ≤ m' ∧ q = .tip m' κ'))

theorem step_grant {G : Gh} {w : World} {b : Nat} {q : Perm} (h : (G.pm b).may q) : Step G w (G.grant b q) w := by
  refine ⟨⟨rfl, rfl, rfl, Nat.le_refl _, fun x _ e => ?_, fun x _ _ e => ?_, fun x m k _ e => ?_, fun _ _ _ h => h⟩, fun _ _ h => h⟩
  · have : x ≠ b := by rintro rfl; rw [e] at h; rcases h with ⟨_, h⟩ | ⟨_, h⟩ | ⟨_, _, h, _⟩ <;> cases h
    exact ⟨(grant_ne G q this).trans e, rfl⟩
  · have : x ≠ b := by rintro rfl; rw [e] at h; rcases h with ⟨_, h⟩ | ⟨_, h⟩ | ⟨_, _, h, _⟩ <;> cases h
    exact ⟨(grant_ne G q this).trans e, rfl⟩
  · refine ⟨?_, fun _ _ => rfl⟩
    by_cases hx : x = b
    · subst hx
      rw [e] at h
      rcases h with ⟨_, h⟩ | ⟨_, h⟩ | ⟨m', κ, h, h'⟩
      · cases h
      · cases h
      · cases h
        rw [grant_self]
        rcases h' with rfl | ⟨m', κ', hm, rfl⟩
        · exact .inr rfl
        · exact .inl ⟨m', κ', hm, rfl⟩
    · rw [grant_ne G q hx]
      exact .inl ⟨m, k, Nat.le_refl _, e⟩

/-- Another key's rights stay. -/
theorem moves_grant {G : Gh} {w : World} {b : Nat} {q : Perm} {κ κ' : Key} (h : G.pm b = .ex κ ∨ ∃ m, G.pm b = .tip m κ) (hne : κ' ≠ κ) : Moves G w (G.grant b q) w κ' κ' := by
  intro x _
  by_cases hx : x = b
  · subst hx
    refine ⟨fun e => ?_, fun m e => ?_⟩
    · rcases h with h | ⟨_, h⟩
      · rw [h] at e; injection e with e; exact absurd e.symm hne
      · rw [h] at e; cases e
    · rcases h with h | ⟨_, h⟩
      · rw [h] at e; cases e
      · rw [h] at e; injection e with _ e; exact absurd e.symm hne
  · rw [grant_ne G q hx]
    exact ⟨fun e => ⟨e, rfl⟩, fun _ e => ⟨e, rfl⟩⟩

theorem Boxes.var {G : Gh} {w : World} {bx : List (List D)} (r : Boxes G w bx) (loc x : Nat) (h : G.bl[loc]? = some (some x)) : G.pm x = .var loc := by
  have hl : loc < bx.length := by rw [← r.len]; exact (List.getElem?_eq_some_iff.mp h).1
  exact (r.box loc x _ h (List.getElem?_eq_getElem hl)).1

/-- What is to be kept of an owned row: nobody writes it any more, its holder may append. -/
theorem own_down {G : Gh} {w : World} {κ : Key} {n : Nat} {l : List (List D)} {v : Value} (h : Own G w κ n l v) :
    ∃ G', Step G w G' w ∧ G'.bl = G.bl ∧ (∀ κ', κ' ≠ κ → Moves G w G' w κ' κ') ∧ (∀ (loc x : Nat), (∀ (loc x : Nat), G.bl[loc]? = some (some x) → G.pm x = .var loc) → G.bl[loc]? = some (some x) → G'.pm x = G.pm x) ∧ Tip G' w κ n l v := by
  rcases h with h | ⟨rfl, b, o, rfl⟩ | ⟨b, o, cap, rfl, r, h1, h2, h3⟩
  · exact ⟨G, ⟨.refl _ _ _, fun _ _ h => h⟩, rfl, fun _ _ => .refl_of _, fun _ _ _ _ => rfl, .inl h⟩
  · exact ⟨G, ⟨.refl _ _ _, fun _ _ h => h⟩, rfl, fun _ _ => .refl_of _, fun _ _ _ _ => rfl, .inr ⟨b, o, 0, rfl, ⟨by simp, fun _ _ => default, by simp, by simp⟩, by simp, .inl rfl⟩⟩
  · have hs : Step G w (G.grant b (.tip (o + l.length * n) κ)) w := step_grant (.inl ⟨κ, h2⟩)
    refine ⟨_, hs, rfl, fun κ' hne => moves_grant (.inl h2) hne, fun loc x hb e => ?_, .inr ⟨b, o, cap, rfl, r.step hs rfl, fun i hi => .inr (.inl ⟨_, _, grant_self _ _ _, by omega⟩), .inr ⟨h1, grant_self _ _ _, h3⟩⟩⟩
    refine grant_ne _ _ ?_
    rintro rfl
    rw [hb loc x e] at h2
    cases h2

/-- A row that is fixed reads as such. -/
theorem Row.ro {G : Gh} {w : World} {n : Nat} {l : List (List D)} {b o : Nat} (r : Row G w n l b o) (hf : ∀ i, i < l.length * n → G.fz b (o + i)) (cap : Nat) (hcap : l.length ≤ cap) : Ro G w (.sl 0 n l) (.slice (some (at_ b o)) l.length cap) := by
  obtain ⟨hn, vs, hc, hv⟩ := r
  refine .sl n l b o cap vs hcap hn (fun i j hi hj => ⟨hc i j hi hj, ?_⟩) hv
  have : (i + 1) * n ≤ l.length * n := Nat.mul_le_mul_right n hi
  rw [Nat.add_mul, Nat.one_mul] at this
  rw [Nat.add_assoc]
  exact hf _ (by omega)

theorem Tip.ro {G : Gh} {w : World} {κ : Key} {n : Nat} {l : List (List D)} {v : Value} (h : Tip G w κ n l v) : Ro G w (.sl 0 n l) v := by
  rcases h with ⟨rfl, rfl⟩ | ⟨b, o, cap, rfl, r, hf, hc⟩
  · exact .nils n
  · exact r.ro hf cap (by rcases hc with hc | ⟨hc, _⟩ <;> omega)

/-- Rights are handed from one key to another. -/
theorem tip_hand {G : Gh} {w : World} {κ : Key} (κ' : Key) {n : Nat} {l : List (List D)} {v : Value} (h : Tip G w κ n l v) :
    ∃ G', Step G w G' w ∧ G'.bl = G.bl ∧ (∀ κ'', κ'' ≠ κ → Moves G w G' w κ'' κ'') ∧ (∀ (loc x : Nat), (∀ (loc x : Nat), G.bl[loc]? = some (some x) → G.pm x = .var loc) → G.bl[loc]? = some (some x) → G'.pm x = G.pm x) ∧ Tip G' w κ' n l v := by
  rcases h with h | ⟨b, o, cap, rfl, r, hf, hc⟩
  · exact ⟨G, ⟨.refl _ _ _, fun _ _ h => h⟩, rfl, fun _ _ => .refl_of _, fun _ _ _ _ => rfl, .inl h⟩
  · rcases hc with hc | ⟨h1, h2, h3⟩
    · exact ⟨G, ⟨.refl _ _ _, fun _ _ h => h⟩, rfl, fun _ _ => .refl_of _, fun _ _ _ _ => rfl, .inr ⟨b, o, cap, rfl, r, hf, .inl hc⟩⟩
    · have hs : Step G w (G.grant b (.tip (o + l.length * n) κ')) w := step_grant (.inr (.inr ⟨_, _, h2, .inr ⟨_, _, Nat.le_refl _, rfl⟩⟩))
      obtain ⟨r', hf'⟩ := r.fixed hs hf
      refine ⟨_, hs, rfl, fun κ'' hne => moves_grant (.inr ⟨_, h2⟩) hne, fun loc x hb e => ?_, .inr ⟨b, o, cap, rfl, r', hf', .inr ⟨h1, grant_self _ _ _, h3⟩⟩⟩
      refine grant_ne _ _ ?_
      rintro rfl
      rw [hb loc x e] at h2
      cases h2

theorem own_hand {G : Gh} {w : World} {κ : Key} (κ' : Key) {n : Nat} {l : List (List D)} {v : Value} (h : Own G w κ n l v) :
    ∃ G', Step G w G' w ∧ G'.bl = G.bl ∧ (∀ κ'', κ'' ≠ κ → Moves G w G' w κ'' κ'') ∧ (∀ (loc x : Nat), (∀ (loc x : Nat), G.bl[loc]? = some (some x) → G.pm x = .var loc) → G.bl[loc]? = some (some x) → G'.pm x = G.pm x) ∧ Own G' w κ' n l v := by
  rcases h with h | h | ⟨b, o, cap, rfl, r, h1, h2, h3⟩
  · exact ⟨G, ⟨.refl _ _ _, fun _ _ h => h⟩, rfl, fun _ _ => .refl_of _, fun _ _ _ _ => rfl, .inl h⟩
  · exact ⟨G, ⟨.refl _ _ _, fun _ _ h => h⟩, rfl, fun _ _ => .refl_of _, fun _ _ _ _ => rfl, .inr (.inl h)⟩
  · have hs : Step G w (G.grant b (.ex κ')) w := step_grant (.inl ⟨κ, h2⟩)
    refine ⟨_, hs, rfl, fun κ'' hne => moves_grant (.inl h2) hne, fun loc x hb e => ?_, .inr (.inr ⟨b, o, cap, rfl, r.step hs rfl, h1, grant_self _ _ _, h3⟩)⟩
    refine grant_ne _ _ ?_
    rintro rfl
    rw [hb loc x e] at h2
    cases h2

end Go.PI
