/- AM: what a law is handed in, as data of its types; and how much it is. -/
import Derived.Test.YtfdbadpiklmbaaaAmLawB
import Derived.Test.YtfdbadpiklmbaaaAmNum
set_option linter.unusedSimpArgs false
set_option linter.unusedVariables false
set_option linter.unnecessarySimpa false
set_option maxRecDepth 100000
namespace Go.AM

/-- A count of what a reading holds. -/
structure BulkOk {H : Type} (B : DataW H → Nat) (BA : List (DataW H) → Nat) : Prop where
  lit : ∀ l, 1 ≤ B (.lit l)
  str : ∀ s, B (.lit (.string s)) = s.length + 1
  nil : B .nil = 1
  slice : ∀ e s, B (.slice e s) = BA e + BA s + 1
  agg : ∀ p, B (.agg p) = BA p + 1
  none : BA [] = 0
  cons : ∀ d r, BA (d :: r) = B d + BA r

/-- What reads so stands so. -/
def Rep.Reads {α : Type} (r : Rep α) (sh : Sh) (size : α → Nat) : Prop :=
  ∀ {H : Type} {B : DataW H → Nat} {BA : List (DataW H) → Nat}, BulkOk B BA → ∀ (h : AHeap) (cs : List Value) (d : DataW H), Rd h sh cs d → ∃ x, r.R (· < h.next) h x cs ∧ size x ≤ B d

section
variable {α β : Type}

theorem Reads.bool : Rep.bool.Reads .bool (fun _ => 1) := by
  intro H B BA hB h cs d hr
  obtain ⟨b, rfl, rfl⟩ := hr
  exact ⟨b, rfl, hB.lit _⟩
theorem Reads.int (k : IntKind) : (Rep.int k).Reads (.int k) (fun _ => 1) := by
  intro H B BA hB h cs d hr
  obtain ⟨n, rfl, h1, h2, rfl⟩ := hr
  exact ⟨n, ⟨rfl, h1, h2⟩, hB.lit _⟩
theorem Reads.nat {k : IntKind} (hk : k.min = 0) : (Rep.nat k).Reads (.int k) (fun _ => 1) := by
  intro H B BA hB h cs d hr
  obtain ⟨n, rfl, h1, h2, rfl⟩ := hr
  rw [hk] at h1
  refine ⟨n.toNat, ⟨by rw [Int.toNat_of_nonneg h1], by rw [Int.toNat_of_nonneg h1]; exact h2⟩, hB.lit _⟩

theorem reads_all {r : Rep α} {sh : Sh} {size : α → Nat} (hr : r.Reads sh size) {H : Type} {B : DataW H → Nat} {BA : List (DataW H) → Nat} (hB : BulkOk B BA) {h : AHeap} :
    ∀ {css : List (List Value)} {ds : List (DataW H)}, css.length = ds.length → (∀ (i : Nat) (c : List Value) (d : DataW H), css[i]? = some c → ds[i]? = some d → Rd h sh c d) → ∃ xs, All2 (r.R (· < h.next) h) xs css ∧ (xs.map size).sum ≤ BA ds
  | [], ds, hl, _ => ⟨[], .nil, by simp⟩
  | c :: css, [], hl, _ => by simp at hl
  | c :: css, d :: ds, hl, ha => by
    obtain ⟨xs, h1, h2⟩ := reads_all hr hB (css := css) (ds := ds) (by simpa using hl) (fun i c d hc hd => ha (i + 1) c d (by simpa using hc) (by simpa using hd))
    obtain ⟨x, h3, h4⟩ := hr hB h c d (ha 0 c d rfl rfl)
    refine ⟨x :: xs, .cons h3 h1, ?_⟩
    rw [hB.cons]; simp only [List.map_cons, List.sum_cons]; omega

theorem Reads.list {r : Rep α} {sh : Sh} {size : α → Nat} {n : Nat} (hr : r.Reads sh size) (hn : r.sz = n) : r.list.Reads (.slice n sh) (fun xs => (xs.map size).sum + 1) := by
  intro H B BA hB h cs d hd
  subst hn
  rcases hd with ⟨rfl, rfl⟩ | ⟨id, len, cap, css, ds, sp, rfl, h2, h3, h4, h5, h6, rfl, h8⟩
  · exact ⟨[], ⟨_, rfl, .nil _ _ _⟩, by simp [hB.nil]⟩
  · obtain ⟨xs, k1, k2⟩ := reads_all hr hB (css := css) (ds := ds) (by omega) (fun i c d hc hd => (h8 i c d hc hd).2)
    have hlen : xs.length = len := by rw [k1.1]; exact h5
    refine ⟨xs, ⟨_, rfl, ⟨some ⟨id, 0, none⟩, cap, css, by rw [hlen], by omega, ?_, fun h => by simp at h, fun ad h => by cases h; exact .inl rfl, k1, fun _ => ⟨_, _, _, rfl, AHeap.lt_of_alive h (by rw [h4]; simp), h4, ?_, ?_⟩⟩⟩, ?_⟩
    · have : maxLen = 9223372036854775807 := by decide
      omega
    · rw [k1.flat]; simp
    · rw [List.drop_zero, List.take_of_length_le]; rw [k1.flat]; exact Nat.le_refl _
    · simp only [hB.slice]; omega

theorem Reads.last {r : Rep α} {sh : Sh} {size : α → Nat} {n : Nat} (hr : r.Reads sh size) : r.Reads (.pcons n sh .pnil) size := by
  intro H B BA hB h cs d hd
  obtain ⟨a, b, d0, ds, rfl, h1, rfl, h3, h4, h5⟩ := hd
  subst h4
  cases h5
  obtain ⟨x, k1, k2⟩ := hr hB h a d0 h3
  refine ⟨x, by simpa using k1, ?_⟩
  rw [hB.agg, hB.cons]; omega

theorem Reads.pair {a : Rep α} {b : Rep β} {sh rest : Sh} {sa : α → Nat} {sb : β → Nat} {n : Nat} (ha : a.Reads sh sa) (hb : b.Reads rest sb) : (Rep.pair a b).Reads (.pcons n sh rest) (fun x => sa x.1 + sb x.2) := by
  intro H B BA hB h cs d hd
  obtain ⟨c1, c2, d0, ds, rfl, h1, rfl, h3, h4⟩ := hd
  obtain ⟨x, k1, k2⟩ := ha hB h c1 d0 h3
  obtain ⟨y, l1, l2⟩ := hb hB h c2 (.agg ds) h4
  refine ⟨(x, y), ⟨c1, c2, rfl, k1, l1⟩, ?_⟩
  rw [hB.agg] at l2 ⊢
  rw [hB.cons]; simp only; omega

theorem Reads.via {r : Rep α} {sh : Sh} {size : α → Nat} (hr : r.Reads sh size) {f : β → α} {g : α → β} (hg : ∀ x, f (g x) = x) : (r.via f).Reads sh (fun y => size (f y)) := by
  intro H B BA hB h cs d hd
  obtain ⟨x, k1, k2⟩ := hr hB h cs d hd
  exact ⟨g x, by show r.R _ _ (f (g x)) _; rw [hg]; exact k1, by simp only [hg]; exact k2⟩

/-- The first of what is handed in. -/
theorem RdA.cons_inv {r : Rep α} {sh : Sh} {size : α → Nat} {ag : Bool} (hr : r.Reads sh size) {H : Type} {B : DataW H → Nat} {BA : List (DataW H) → Nat} (hB : BulkOk B BA) {h : AHeap} {ss : List (Bool × Sh)} {vs : List Value} {ds : List (DataW H)}
    (ha : RdA h ((ag, sh) :: ss) vs ds) : ∃ x cs vs' ds', vs = ofCells ag cs :: vs' ∧ r.R (· < h.next) h x cs ∧ RdA h ss vs' ds' ∧ size x + BA ds' ≤ BA ds := by
  obtain ⟨acs, vs', d, ds', rfl, rfl, h3, h4⟩ := ha
  obtain ⟨x, k1, k2⟩ := hr hB h acs d h3
  exact ⟨x, acs, vs', ds', rfl, k1, h4, by rw [hB.cons]; omega⟩
theorem RdA.nil_inv {H : Type} {h : AHeap} {vs : List Value} {ds : List (DataW H)} (ha : RdA h [] vs ds) : vs = [] := ha.1

theorem ofCells_one {v : Value} : ofCells false [v] = v := rfl
theorem ofCells_agg {cs : List Value} : ofCells true cs = .agg cs.toArray := rfl
end
end Go.AM
