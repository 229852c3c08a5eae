/- net: the bag. -/
import Derived.Test.YtolnacokdjognaaNeG
set_option linter.unusedSimpArgs false
set_option linter.unusedVariables false
set_option linter.unnecessarySimpa false
set_option maxRecDepth 100000
namespace Go.Proofs.Ytolnacokdjognaa
open Go.AM

/-- A datagram of the program's, with where its bytes stand. -/
structure G where
  v : Value
  bs : List Nat
  sp : Bool
def G.cs (g : G) : List Value := [g.v, .bool g.sp]
def gcells (gl : List G) : List Value := (gl.map G.cs).flatten
/-- The object of bytes that are some. -/
def blkN : Value → Option Nat
  | .slice (some a) n _ => if n = 0 then none else some a.block
  | _ => none
def sepG (g g' : G) : Prop := ∀ j, blkN g.v = some j → blkN g'.v ≠ some j
/-- Bytes in an object of their own. -/
def GB (Z : Nat → Prop) (h : AHeap) (bs : List Nat) (v : Value) : Prop :=
  ∃ a, v = .slice a bs.length bs.length ∧ bs.length ≤ 281474976710656 ∧ (∀ x ∈ bs, x ≤ 255) ∧ (∀ ad, a = some ad → ad.spot = none ∨ ad.spot = some 1) ∧ (bs ≠ [] → ∃ ob, a = some ⟨ob, 0, some 1⟩ ∧ Z ob ∧ h.get ob = .cells (bs.map fun n => .int .u8 (n : Nat)) (.tail 1))
def GArr (Z : Nat → Prop) (h : AHeap) (id : Nat) (gl : List G) (av : Value) : Prop :=
  ∃ cap, gl.length ≤ cap ∧ cap ≤ 256 ∧ ((av = .slice none 0 0 ∧ cap = 0) ∨ ∃ ob c, av = .slice (some ⟨ob, 0, some 2⟩) gl.length cap ∧ Z ob ∧ ob ≠ id ∧ h.get ob = .cells c (.tail 2) ∧ c.length = cap * 2 ∧ c.take (gl.length * 2) = gcells gl ∧ ∀ g ∈ gl, blkN g.v ≠ some ob)
def BagAt (Z : Nat → Prop) (h : AHeap) (id : Nat) (gl : List G) : Prop :=
  Z id ∧ (∃ av, h.get id = .cells [.bool true, av] .rw ∧ GArr Z h id gl av) ∧ (∀ g ∈ gl, GB Z h g.bs g.v ∧ blkN g.v ≠ some id) ∧ gl.Pairwise sepG
def upZ (Z : Nat → Prop) (h : AHeap) : Nat → Prop := fun j => Z j ∨ h.next ≤ j

theorem gcells_len (gl : List G) : (gcells gl).length = gl.length * 2 := by
  unfold gcells
  induction gl with
  | nil => rfl
  | cons g gl ih => simp only [List.map_cons, List.flatten_cons, List.length_append, ih, List.length_cons]; show 2 + _ = _; omega
theorem gcells_app (a b : List G) : gcells (a ++ b) = gcells a ++ gcells b := by simp [gcells]
theorem gcells_drop (gl : List G) (i : Nat) : (gcells gl).drop (i * 2) = gcells (gl.drop i) := by
  unfold gcells
  rw [flat_drop i (sz := 2) (by intro c hc; obtain ⟨g, _, rfl⟩ := List.mem_map.1 hc; rfl), List.map_drop]
theorem gcells_take (gl : List G) (i : Nat) : (gcells gl).take (i * 2) = gcells (gl.take i) := by
  unfold gcells
  rw [flat_take i (sz := 2) (by intro c hc; obtain ⟨g, _, rfl⟩ := List.mem_map.1 hc; rfl), List.map_take]
theorem gcells_at {gl : List G} {i : Nat} {g : G} (hi : gl[i]? = some g) : ((gcells gl).drop (i * 2)).take 2 = g.cs := by
  unfold gcells
  exact flat_at (sz := 2) (by intro c hc; obtain ⟨g, _, rfl⟩ := List.mem_map.1 hc; rfl) (by simp [hi])
theorem gcells_ones (gl : List G) (h : ∀ g ∈ gl, one g.v = true) : (gcells gl).all one = true := by
  unfold gcells
  rw [List.all_eq_true]
  intro x hx
  obtain ⟨c, hc, hxc⟩ := List.mem_flatten.1 hx
  obtain ⟨g, hg, rfl⟩ := List.mem_map.1 hc
  rcases List.mem_cons.1 hxc with rfl | hxc
  · exact h g hg
  · rcases List.mem_cons.1 hxc with rfl | hxc
    · rfl
    · cases hxc
section
variable {h : AHeap} {S S' Z : Nat → Prop} {v w : Value} {id : Nat} {gl : List G}
theorem GB.len {bs : List Nat} (g : GB Z h bs v) : ∃ a, v = .slice a bs.length bs.length := by obtain ⟨a, e, _⟩ := g; exact ⟨a, e⟩
theorem GB.one {bs : List Nat} (g : GB Z h bs v) : one v = true := by obtain ⟨a, rfl⟩ := g.len; rfl
theorem GB.isSl {bs : List Nat} (g : GB Z h bs v) : Bytes (fun j => Z j ∧ blkN v = some j) h bs v := by
  obtain ⟨a, rfl, h1, h2, h3, h4⟩ := g
  refine ⟨a, bs.length, bs.map fun n => [.int .u8 (n : Nat)], rfl, Nat.le_refl _, by omega, fun e => ?_, fun ad e => h3 ad e, nat_all2 (fun n hn => by rw [u8_max]; have := h2 n hn; omega), fun hn => ?_⟩
  · subst e
    by_cases e : bs = []
    · subst e; rfl
    · obtain ⟨ob, k, _⟩ := h4 e; cases k
  · obtain ⟨ob, rfl, k1, k2⟩ := h4 hn
    refine ⟨_, _, _, rfl, ⟨k1, ?_⟩, k2, ?_, ?_⟩
    · show (if bs.length = 0 then none else some ob) = _
      rw [if_neg (fun hl => hn (List.eq_nil_of_length_eq_zero hl))]
    · show 0 + bs.length * 1 ≤ _; simp
    · show (List.drop 0 _).take (bs.length * 1) = _
      rw [nat_flat, List.drop_zero, Nat.mul_one, List.take_of_length_le (by simp)]
theorem GB.mono {Z' : Nat → Prop} {h' : AHeap} {bs : List Nat} (g : GB Z h bs v) (hm : ∀ j, Z j → j < h.next → blkN v = some j → Z' j ∧ h'.get j = h.get j) : GB Z' h' bs v := by
  obtain ⟨a, rfl, h1, h2, h3, h4⟩ := g
  refine ⟨a, rfl, h1, h2, h3, fun e => ?_⟩
  obtain ⟨ob, rfl, k1, k2⟩ := h4 e
  have hb : blkN (.slice (some ⟨ob, 0, some 1⟩) bs.length bs.length) = some ob := by
    show (if bs.length = 0 then none else some ob) = _
    rw [if_neg (fun hl => e (List.eq_nil_of_length_eq_zero hl))]
  obtain ⟨m1, m2⟩ := hm ob k1 (AHeap.lt_of_alive h (by rw [k2]; simp)) hb
  exact ⟨ob, rfl, m1, by rw [m2]; exact k2⟩
theorem GB.lt {bs : List Nat} (g : GB Z h bs v) {j : Nat} (hj : blkN v = some j) : j < h.next ∧ Z j := by
  obtain ⟨a, rfl, h1, h2, h3, h4⟩ := g
  by_cases e : bs = []
  · subst e
    exfalso
    cases a with
    | none => cases hj
    | some ad => change (if (0 : Nat) = 0 then none else some ad.block) = some j at hj; simp at hj
  · obtain ⟨ob, rfl, k1, k2⟩ := h4 e
    change (if bs.length = 0 then none else some ob) = some j at hj
    rw [if_neg (fun hl => e (List.eq_nil_of_length_eq_zero hl))] at hj
    cases hj
    exact ⟨AHeap.lt_of_alive h (by rw [k2]; simp), k1⟩
theorem Lst.gb {bs : List Nat} {lo : Nat} {T : Nat → Prop} (hl : Lst rB lo T h bs v) (hS : ∀ j, lo ≤ j → Z j) : GB Z h bs v := by
  obtain ⟨css, ha, h0, ⟨a, rfl, rfl, k3⟩ | ⟨ob, rfl, hlo, hg⟩⟩ := hl
  · exact ⟨a, rfl, h0, by simp, fun ad e => .inl (k3 ad e).1, fun e => absurd rfl e⟩
  · refine ⟨_, rfl, h0, fun x hx => ?_, fun ad e => by cases e; exact .inr rfl, fun _ => ⟨ob, rfl, hS _ hlo, ?_⟩⟩
    · have := (nat_cells ha).2 x hx; rw [u8_max] at this; omega
    · rw [hg, (nat_cells ha).1]; rfl
/-- One datagram more. -/
theorem GArr.app1 {av : Value} {g : G} (hA : GArr Z h id gl av) (hid : id < h.next) (hn : gl.length < 256) (hg : ∀ j, blkN g.v = some j → j < h.next) (hgo : ∀ j, blk av = some j → blkN g.v ≠ some j) (hgl : ∀ g ∈ gl, ∀ j, blkN g.v = some j → j < h.next) :
    ∃ av' h', aappend h 2 32 av 1 g.cs = some (av', h') ∧ GArr (upZ Z h) h' id (gl ++ [g]) av' ∧ Fw (fun j => blk av = some j) h h' ∧ ∃ a n c, av' = .slice a n c := by
  obtain ⟨cap, c1, c2, ⟨rfl, rfl⟩ | ⟨ob, c, rfl, k1, k2, k3, k4, k5, k6⟩⟩ := hA
  · obtain rfl : gl = [] := List.eq_nil_of_length_eq_zero (by omega)
    refine ⟨.slice (some ⟨h.next, 0, some 2⟩) 1 1, h.push (.cells g.cs (.tail 2)), by rw [aappend_nil, if_neg (by decide), if_pos (by decide)], ⟨1, by simp, by omega, .inr ⟨h.next, g.cs, rfl, .inr (Nat.le_refl _), by omega, by simp, rfl, by simp [gcells, G.cs], fun g' hg' e => ?_⟩⟩, .push _, _, _, _, rfl⟩
    obtain rfl : g' = g := by simpa using hg'
    have := hg _ e; omega
  · have hlt : ob < h.next := AHeap.lt_of_alive h (by rw [k3]; simp)
    by_cases hc : gl.length + 1 ≤ cap
    · refine ⟨_, _, by rw [aappend_u, if_neg (by decide), if_pos hc, k3, appIn_cells, if_pos ⟨by simp, by omega⟩], ⟨cap, by simp; omega, c2, .inr ⟨ob, _, by simp, .inl k1, k2, AHeap.get_set_self _ _ hlt, by rw [length_putCells]; exact k4, ?_, fun g' hg' => ?_⟩⟩, .mono (.set _) (fun j _ e => by subst e; rfl), _, _, _, rfl⟩
      · rw [putCells_eq _ _ _ (by show 0 + gl.length * 2 + 2 ≤ _; omega), Nat.zero_add, k5, gcells_app, List.length_append, List.length_singleton, List.take_append_of_le_length (by rw [List.length_append, gcells_len]; show _ ≤ _ + 2; omega), List.take_of_length_le (by rw [List.length_append, gcells_len]; show _ + 2 ≤ _; omega)]
        simp [gcells]
      · rcases List.mem_append.1 hg' with hg' | hg'
        · exact k6 g' hg'
        · obtain rfl : g' = g := by simpa using hg'
          exact hgo ob rfl
    · have hcap : cap = gl.length := by omega
      refine ⟨.slice (some ⟨h.next, 0, some 2⟩) (gl.length + 1) (gl.length + 1), (h.set ob .dead).push (.cells ((c.drop 0).take (gl.length * 2) ++ g.cs) (.tail 2)), by rw [aappend_u, if_neg (by decide), if_neg hc, if_pos ⟨by omega, by omega⟩, k3, appMove_cells, if_pos ⟨rfl, rfl, by omega⟩], ⟨gl.length + 1, by simp, by omega, .inr ⟨h.next, (c.drop 0).take (gl.length * 2) ++ g.cs, by simp, .inr (Nat.le_refl _), by omega, by have := AHeap.get_push_self (h.set ob .dead) (.cells ((c.drop 0).take (gl.length * 2) ++ g.cs) (.tail 2)); rwa [AHeap.next_set] at this, ?_, ?_, fun g' hg' e => ?_⟩⟩, .then (.mono (.set _) (fun j _ e => by subst e; rfl)) (.push _ _), _, _, _, rfl⟩
      · rw [List.drop_zero, List.length_append, List.length_take]; show _ + 2 = _; omega
      · rw [List.drop_zero, k5, gcells_app, List.take_of_length_le (by rw [List.length_append, List.length_append, gcells_len]; show _ + 2 ≤ _; simp; omega)]
        simp [gcells]
      · rcases List.mem_append.1 hg' with hg' | hg'
        · have := hgl g' hg' _ e; omega
        · obtain rfl : g' = g := by simpa using hg'
          have := hg _ e; omega
theorem GArr.shape {av : Value} (hA : GArr Z h id gl av) : ∃ a c, av = .slice a gl.length c := by
  obtain ⟨cap, c1, c2, ⟨rfl, rfl⟩ | ⟨ob, c, rfl, k⟩⟩ := hA
  · exact ⟨none, 0, by rw [List.eq_nil_of_length_eq_zero (by omega : gl.length = 0)]; rfl⟩
  · exact ⟨_, _, rfl⟩
theorem GArr.ne {av : Value} (hA : GArr Z h id gl av) : blk av ≠ some id ∧ ∀ j, blk av = some j → Z j ∧ j < h.next ∧ ∀ g ∈ gl, blkN g.v ≠ some j := by
  obtain ⟨cap, c1, c2, ⟨rfl, rfl⟩ | ⟨ob, c, rfl, k1, k2, k3, k4, k5, k6⟩⟩ := hA
  · exact ⟨by simp, fun j e => by cases e⟩
  · exact ⟨by simpa using k2, fun j e => by cases e; exact ⟨k1, AHeap.lt_of_alive h (by show h.get ob ≠ _; rw [k3]; simp), k6⟩⟩
theorem GArr.mono {Z' : Nat → Prop} {h' : AHeap} {av : Value} (hA : GArr Z h id gl av) (hm : ∀ j, blk av = some j → Z' j ∧ h'.get j = h.get j) : GArr Z' h' id gl av := by
  obtain ⟨cap, c1, c2, ⟨rfl, rfl⟩ | ⟨ob, c, rfl, k1, k2, k3, k4, k5, k6⟩⟩ := hA
  · exact ⟨0, c1, c2, .inl ⟨rfl, rfl⟩⟩
  · obtain ⟨m1, m2⟩ := hm ob rfl
    exact ⟨cap, c1, c2, .inr ⟨ob, c, rfl, m1, k2, by rw [m2]; exact k3, k4, k5, k6⟩⟩
/-- The cells of a datagram. -/
theorem GArr.at {av : Value} {i : Nat} {g : G} (hA : GArr Z h id gl av) (hi : gl[i]? = some g) : ∃ ob c cap, av = .slice (some ⟨ob, 0, some 2⟩) gl.length cap ∧ Z ob ∧ ob ≠ id ∧ h.get ob = .cells c (.tail 2) ∧ i * 2 + 2 ≤ c.length ∧ (c.drop (i * 2)).take 2 = g.cs ∧ c[i * 2]? = some g.v ∧ c[i * 2 + 1]? = some (.bool g.sp) := by
  obtain ⟨hl, -⟩ := List.getElem?_eq_some_iff.1 hi
  obtain ⟨cap, c1, c2, ⟨rfl, rfl⟩ | ⟨ob, c, rfl, k1, k2, k3, k4, k5, k6⟩⟩ := hA
  · omega
  · have hd : (c.drop (i * 2)).take 2 = g.cs := by
      rw [← gcells_at hi, ← k5, List.drop_take, List.take_take, Nat.min_eq_left (by omega)]
    refine ⟨ob, c, cap, rfl, k1, k2, k3, by omega, hd, ?_, ?_⟩
    · have := seg_get hd (k := 0) (by omega); exact this
    · have := seg_get hd (k := 1) (by omega); exact this
theorem BagAt.lt (b : BagAt Z h id gl) : id < h.next := by obtain ⟨_, ⟨av, hg, _⟩, _⟩ := b; exact AHeap.lt_of_alive h (by rw [hg]; simp)
theorem BagAt.mono {Z' : Nat → Prop} {h' : AHeap} (b : BagAt Z h id gl) (hm : ∀ j, Z j → j < h.next → Z' j ∧ h'.get j = h.get j) : BagAt Z' h' id gl := by
  have hlt := b.lt
  obtain ⟨hz, ⟨av, hg, hA⟩, hB, hP⟩ := b
  exact ⟨(hm id hz hlt).1, ⟨av, by rw [(hm id hz hlt).2]; exact hg, hA.mono fun j e => hm j (hA.ne.2 j e).1 (hA.ne.2 j e).2.1⟩, fun g hgm => ⟨(hB g hgm).1.mono fun j hj hl _ => hm j hj hl, (hB g hgm).2⟩, hP⟩
theorem BagAt.quiet {h' : AHeap} (b : BagAt Z h id gl) (q : h.quiet h') : BagAt Z h' id gl := b.mono fun j hj hl => ⟨hj, q.2 j hl⟩
end
end Go.Proofs.Ytolnacokdjognaa
