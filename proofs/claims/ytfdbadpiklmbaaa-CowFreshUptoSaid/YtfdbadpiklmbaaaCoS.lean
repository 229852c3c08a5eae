/- cow: what the laws call. -/
import Derived.Test.YtfdbadpiklmbaaaCoR
import Derived.Test.YtfdbadpiklmbaaaCoZ
set_option linter.unusedSimpArgs false
set_option linter.unusedVariables false
set_option linter.unnecessarySimpa false
set_option maxRecDepth 100000
namespace Go.Proofs.Ytfdbadpiklmbaaa
open Go.AM

theorem bits_fuel : ∀ (f g n : Nat), n ≤ f → n ≤ g → bits f n = bits g n
  | 0, 0, _, _, _ => rfl
  | 0, g + 1, n, h, _ => by have : n = 0 := by omega
                            subst this; simp [bits]
  | f + 1, 0, n, _, h => by have : n = 0 := by omega
                            subst this; simp [bits]
  | f + 1, g + 1, n, h1, h2 => by
    unfold bits
    split
    · rfl
    · rw [bits_fuel f g (n / 2) (by omega) (by omega)]
def bitsN (m : Nat) : Nat := bits m m
theorem bitsN_pos {m : Nat} (h : 0 < m) : bitsN m = 1 + bitsN (m / 2) := by
  unfold bitsN
  obtain ⟨f, rfl⟩ : ∃ f, m = f + 1 := ⟨m - 1, by omega⟩
  conv => lhs; unfold bits
  rw [if_neg (by omega), bits_fuel f ((f + 1) / 2) _ (by omega) (Nat.le_refl _)]
theorem bitsN_le (m : Nat) : bitsN m ≤ m := by
  induction m using Nat.strongRecOn with
  | _ m ih =>
    rcases Nat.eq_zero_or_pos m with rfl | h
    · exact Nat.le_refl _
    · rw [bitsN_pos h]; have := ih (m / 2) (by omega); omega

structure Act where
  kind : Nat
  root : Int
  x : Ext
def rAct : Rep Act := (Rep.pair rB (.pair rI rExt)).via fun a => (a.kind, a.root, a.x)
def Act.cs (a : Act) : List Value := [.int .u8 (a.kind : Nat), .int .i64 a.root, .int .i64 a.x.off, .int .i64 a.x.len, .int .i64 a.x.phys, .int .i64 a.x.birth]
theorem rAct_iff {S : Nat → Prop} {h : AHeap} {a : Act} {cs : List Value} : rAct.R S h a cs ↔ cs = a.cs ∧ (a.kind : Int) ≤ IntKind.u8.max ∧ inI a.root ∧ a.x.inI := by
  constructor
  · rintro ⟨c1, c2, rfl, ⟨rfl, h1⟩, c3, c4, rfl, ⟨rfl, h2⟩, h3⟩
    obtain ⟨rfl, h4⟩ := rExt_iff.1 h3
    exact ⟨rfl, h1, inI_iff.2 h2, h4⟩
  · rintro ⟨rfl, h1, h2, h3⟩
    exact ⟨[_], _, rfl, ⟨rfl, h1⟩, [_], _, rfl, ⟨rfl, inI_iff.1 h2⟩, rExt_iff.2 ⟨rfl, h3⟩⟩
def F.does (ts : List T) (a : Act) : (Int × Int) × List T := if a.kind % 2 = 0 then F.put ts a.root a.x else F.cut ts a.root a.x.off a.x.len
def GF (ts : List T) : Prop := ts ≠ [] ∧ ∀ t ∈ ts, GT t
theorem GF.ok {ts : List T} (g : GF ts) : okF ts := fun t ht => (g.2 t ht).okT
theorem GF.new : GF [.nil] := by
  refine ⟨by simp, fun t ht => ?_⟩
  obtain rfl : t = .nil := by simpa using ht
  exact GT.nil
theorem GF.snoc {ts : List T} (g : GF ts) {t : T} (ht : GT t) : GF (ts ++ [t]) := by
  refine ⟨by simp, fun s hs => (List.mem_append.1 hs).elim (g.2 s) fun e => ?_⟩
  obtain rfl : s = t := by simpa using e
  exact ht
theorem F.does_good {ts : List T} (g : GF ts) (a : Act) : ((F.does ts a).1.2 = 0 ∧ ∃ t, GT t ∧ (F.does ts a).1.1 = ts.length ∧ (F.does ts a).2 = ts ++ [t]) ∨ ((F.does ts a).1.2 ≠ 0 ∧ (F.does ts a).2 = ts) := by
  have hm : ∀ {root : Int}, Has ts root → GT (ts.getD root.toNat .nil) := fun {root} h => by
    unfold Has at h
    have hl : root.toNat < ts.length := by omega
    rw [List.getD, List.getElem?_eq_getElem hl]
    exact g.2 _ (List.getElem_mem hl)
  unfold F.does F.put F.cut
  split
  · split
    · rename_i hh
      split
      · rename_i ho; exact .inl ⟨rfl, _, (Tput_good (hm hh) ho).1, rfl, rfl⟩
      · exact .inr ⟨(by decide : (1 : Int) ≠ 0), rfl⟩
    · exact .inr ⟨(by decide : (9 : Int) ≠ 0), rfl⟩
  · split
    · rename_i hh
      split
      · rename_i ho; exact .inl ⟨rfl, _, (Tcut_good (hm hh) ho).1, rfl, rfl⟩
      · exact .inr ⟨(by decide : (1 : Int) ≠ 0), rfl⟩
    · exact .inr ⟨(by decide : (9 : Int) ≠ 0), rfl⟩
theorem F.does_gf {ts : List T} (g : GF ts) (a : Act) : GF (F.does ts a).2 ∧ (F.does ts a).2.length ≤ ts.length + 1 := by
  rcases F.does_good g a with ⟨_, t, ht, _, e⟩ | ⟨_, e⟩
  · rw [e]; exact ⟨g.snoc ht, by simp⟩
  · rw [e]; exact ⟨g, by omega⟩
theorem GT.whole {t : T} (g : GT t) : t.parts 0 1024 = t.list := by
  rw [T.parts_eq 0 1024 g.1]
  exact partL_all fun x hx => ⟨g.1.1 x hx, by have := g.1.1 x hx; unfold Ext.ok at this; omega⟩
def F.list (ts : List T) (root : Int) : List Ext × Int := if Has ts root then ((ts.getD root.toNat .nil).list, 0) else ([], 9)

section
variable {own own' own'' : Nat → Nat} {h h' h'' h0 : AHeap} {S S' Z : Nat → Prop} {id : Nat} {ts : List T} {ps : List (Option Nat)} {v : Value}
theorem deepest_ok {n : Nat} (hn : n ≤ 1099511627776) : Does Try.prog 14 #[.int .i64 n] h (fun u h' => u = .int .i64 ((bitsN (n + 1) * 3 / 2 + 1 : Nat) : Int) ∧ h' = h) := by
  refine spec_go mixed Try.func14 rfl Try.results14 (n := Try.f14.ntmps) (by kernel_rfl) (by simp) ?_
  simp only [go_sem, simprocAttr]
  refine go_loop (fun z ρ k => ∃ m b : Nat, z = m + 0 ∧ m ≤ n + 1 ∧ b + bitsN m = bitsN (n + 1) ∧ h = k ∧ ρ 0 = .int .i64 ((m : Int) - 1) ∧ ρ 3 = .int .i64 b) (n + 1) ⟨n + 1, 0, rfl, Nat.le_refl _, by omega, rfl, by simp only [go_sem, simprocAttr]; congr 1; omega⟩ ?_
  rintro m ρ k ⟨m', b, hz, hm, hb, rfl, r0, r3⟩
  obtain rfl : m = m' := hz
  have hbl := bitsN_le (n + 1)
  have e1 : IntKind.i64.wrap ((m : Int) - 1 + 1) = m := by rw [wi64] <;> omega
  simp only [go_sem, simprocAttr, r0, r3, e1]
  refine cnd_decide (fun hc => ?_) (fun hc => ?_)
  · have hm0 : 0 < m := by omega
    have hp := bitsN_pos hm0
    have e2 : IntKind.i64.wrap ((b : Int) + 1) = ((b + 1 : Nat) : Int) := by rw [wi64] <;> omega
    have e3 : Int.tdiv (m : Int) 2 = ((m / 2 : Nat) : Int) := rfl
    have e4 : IntKind.i64.wrap ((m / 2 : Nat) : Int) = ((m / 2 : Nat) : Int) := by rw [wi64] <;> omega
    have e5 : IntKind.i64.wrap (((m / 2 : Nat) : Int) - 1) = ((m / 2 : Nat) : Int) - 1 := by rw [wi64] <;> omega
    simp only [go_sem, simprocAttr, r0, r3, e1, e2, e3, e4, e5]
    exact Hold.mk ⟨m / 2, by omega, m / 2, b + 1, rfl, by omega, by omega, rfl, by simp only [go_sem, simprocAttr]⟩
  · have hm0 : m = 0 := by omega
    subst hm0
    have hb' : b = bitsN (n + 1) := by have : bitsN 0 = 0 := rfl
                                       omega
    subst hb'
    generalize bitsN (n + 1) = b at *
    have e2 : IntKind.i64.wrap ((b : Int) * 3) = ((b * 3 : Nat) : Int) := by rw [wi64] <;> omega
    have e3 : Int.tdiv ((b * 3 : Nat) : Int) 2 = ((b * 3 / 2 : Nat) : Int) := rfl
    have e4 : IntKind.i64.wrap ((b * 3 / 2 : Nat) : Int) = ((b * 3 / 2 : Nat) : Int) := by rw [wi64] <;> omega
    have e5 : IntKind.i64.wrap (((b * 3 / 2 : Nat) : Int) + 1) = ((b * 3 / 2 + 1 : Nat) : Int) := by rw [wi64] <;> omega
    simp only [go_sem, simprocAttr, r3, e2, e3, e4, e5]
theorem short_ok {xs : List Act} (hx : IsSl rAct S h xs v) : Does Try.prog 15 #[v] h (fun u h' => IsSl rAct S h (xs.take (min xs.length 300)) u ∧ h' = h) := by
  obtain ⟨A, c, rfl⟩ := hx.shape
  have hlen := hx.len
  have hmin : min (xs.length : Int) 300 = ((min xs.length 300 : Nat) : Int) := by omega
  obtain ⟨a1, c1, s1, i1⟩ := hx.slice 6 rfl (Nat.zero_le (min xs.length 300)) (Nat.min_le_left _ _)
  simp only [Nat.sub_zero, List.drop_zero] at s1 i1
  replace s1 : slI 6 A xs.length c (some 0) (some ((min xs.length 300 : Nat) : Int)) = some (.slice a1 (min xs.length 300) c1) := s1
  refine spec_go mixed Try.func15 rfl Try.results15 (n := Try.f15.ntmps) (by kernel_rfl) (by simp) ?_
  simp only [go_sem, simprocAttr, hmin, s1]
  exact i1
theorem does_ok (ha : FoAt own h id ts) (g : GF ts) (hl : ts.length ≤ 1000000) {a : Act} (hk : a.kind ≤ 255) (hr : inI a.root) (hx : a.x.inI) : Does Try.prog 16 #[.pointer (some ⟨id, 0, none⟩), .agg a.cs.toArray] h
    (fun u h' => u = .tuple #[.int .i64 (F.does ts a).1.1, .int .i64 (F.does ts a).1.2] ∧ ∃ own', FoAt own' h' id (F.does ts a).2 ∧ Kp own h own' h') := by
  have tm : Int.tmod (a.kind : Int) 2 = ((a.kind % 2 : Nat) : Int) := rfl
  refine spec_go mixed Try.func16 rfl Try.results16 (n := Try.f16.ntmps) (by kernel_rfl) (by simp) ?_
  simp only [go_sem, simprocAttr, Act.cs]
  refine cnd_gen fun k1 e1 => ?_
  have q1 : h.quiet k1 := by rw [e1]; simp only [go_sem, simprocAttr]
  have g1 : k1.get h.next = .cells a.cs .rw := by rw [e1]; simp only [go_sem, simprocAttr, Act.cs]
  clear e1
  unfold Act.cs at g1
  have ha1 := ha.quiet q1 0
  have kp1 := Kp.quiet (own := own) q1 0
  unfold F.does
  refine cnd_decide (fun c => ?_) (fun c => ?_)
  · rw [if_pos (by omega)]
    simp only [go_sem, simprocAttr, g1]
    have hp := putF_ok ha1 g.1 g.ok (by omega) (root := a.root) hx
    unfold Ext.ag at hp
    refine cl_spec hp (fun _ _ _ hc => absurd hc (by decide +kernel)) ?_
    rintro u k ⟨rfl, ow, hf, kp⟩
    simp only [go_sem, simprocAttr]
    exact ⟨ow, hf, kp1.trans kp⟩
  · rw [if_neg (by omega)]
    simp only [go_sem, simprocAttr, g1]
    refine cl_spec (cutF_ok ha1 g.1 g.ok (by omega) (root := a.root) hx.1 hx.2.1) (fun _ _ _ hc => absurd hc (by decide +kernel)) ?_
    rintro u k ⟨rfl, ow, hf, kp⟩
    simp only [go_sem, simprocAttr]
    exact ⟨ow, hf, kp1.trans kp⟩
theorem listF_ok (ha : FoAt own h id ts) (g : GF ts) {root : Int} : Does Try.prog 12 #[.pointer (some ⟨id, 0, none⟩), .int .i64 root] h
    (fun u h' => ∃ v, u = .tuple #[v, .int .i64 (F.list ts root).2] ∧ OwnL rExt (h.next ≤ ·) h' (F.list ts root).1 v ∧ h.quiet h') := by
  have e : F.part ts root 0 1024 = F.list ts root := by
    unfold F.part F.list
    split
    · rename_i hh
      rw [if_pos (by decide)]
      have : GT (ts.getD root.toNat .nil) := by
        unfold Has at hh
        have hl : root.toNat < ts.length := by omega
        rw [List.getD, List.getElem?_eq_getElem hl]
        exact g.2 _ (List.getElem_mem hl)
      have hw := this.whole
      rw [show (0 : Int) + 1024 = 1024 from rfl, hw]
    · rfl
  refine spec_go mixed Try.func12 rfl Try.results12 (n := Try.f12.ntmps) (by kernel_rfl) (by simp) ?_
  simp only [go_sem, simprocAttr]
  refine cl_spec (partF_ok ha g.1 g.ok (root := root) (o := 0) (n := 1024) ⟨by decide, by decide⟩ ⟨by decide, by decide⟩) (fun _ _ _ hc => absurd hc (by decide +kernel)) ?_
  rintro u k ⟨v, rfl, ho, q⟩
  rw [e] at ho
  simp only [go_sem, simprocAttr, e]
  exact ⟨_, rfl, ho, q⟩
end
end Go.Proofs.Ytfdbadpiklmbaaa
