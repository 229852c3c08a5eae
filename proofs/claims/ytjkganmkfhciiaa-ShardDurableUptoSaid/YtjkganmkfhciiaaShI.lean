/- shard: what makes one volume of the other. -/
import Derived.Test.YtjkganmkfhciiaaShH
set_option linter.unusedSimpArgs false
set_option linter.unusedVariables false
set_option linter.unnecessarySimpa false
set_option maxRecDepth 100000
namespace Go.Proofs.Ytjkganmkfhciiaa
open Go.AM

def rBopO : Rep Bop := (Rep.pair rI (.pair rI (.pair rI (Rep.own .u64)))).via fun o => (o.kd, o.off, o.ln, o.data)
theorem rBopO_iff {S : Nat → Prop} {h : AHeap} {m : Bop} {cs : List Value} : rBopO.R S h m cs ↔ ∃ v, cs = m.cs v ∧ m.inI ∧ OwnSl .u64 S h m.data v := by
  constructor
  · rintro ⟨c1, c2, rfl, ⟨rfl, h1⟩, c3, c4, rfl, ⟨rfl, h2⟩, c5, c6, rfl, ⟨rfl, h3⟩, v, rfl, hv⟩
    exact ⟨v, rfl, ⟨h1, h2, h3⟩, hv⟩
  · rintro ⟨v, rfl, ⟨h1, h2, h3⟩, hv⟩
    exact ⟨_, _, rfl, ⟨rfl, h1⟩, _, _, rfl, ⟨rfl, h2⟩, _, _, rfl, ⟨rfl, h3⟩, v, rfl, hv⟩
/-- Is a block to be told? -/
def tch (ws bs : List Nat) (i : Nat) : Bool := decide (ws.getD i 0 ≠ bs.getD i 0)
def zr (bs : List Nat) (i : Nat) : Bool := decide (bs.getD i 0 = 0)
def runE (ws bs : List Nat) (z : Bool) : Nat → Nat → Nat
  | 0, k => k
  | f + 1, k => if k < bs.length ∧ tch ws bs k = true ∧ zr bs k = z then runE ws bs z f (k + 1) else k
def chunkF (bs : List Nat) : Nat → Nat → Nat → List Bop
  | 0, _, _ => []
  | f + 1, i, k => if i < k then ⟨1, i, 0, (bs.drop i).take (min k (i + 64) - i)⟩ :: chunkF bs f (i + 64) k else []
def shortF (ws bs : List Nat) : Nat → Nat → List Bop
  | 0, _ => []
  | f + 1, i => if i < bs.length then (if tch ws bs i = true then (if zr bs i = true then [⟨2, i, (runE ws bs (zr bs i) bs.length (i + 1) : Nat) - (i : Int), []⟩] else chunkF bs bs.length i (runE ws bs (zr bs i) bs.length (i + 1))) ++ shortF ws bs f (runE ws bs (zr bs i) bs.length (i + 1)) else shortF ws bs f (i + 1)) else []
theorem runE_le {ws bs : List Nat} {z : Bool} : ∀ (f k : Nat), k ≤ bs.length → k ≤ runE ws bs z f k ∧ runE ws bs z f k ≤ bs.length
  | 0, k, h => ⟨Nat.le_refl _, h⟩
  | f + 1, k, h => by
    unfold runE
    split
    · rename_i hc; have := runE_le (ws := ws) (z := z) f (k + 1) hc.1; exact ⟨by omega, this.2⟩
    · exact ⟨Nat.le_refl _, h⟩
theorem runE_step {ws bs : List Nat} {z : Bool} {f k : Nat} (hf : bs.length - k ≤ f) (hc : k < bs.length ∧ tch ws bs k = true ∧ zr bs k = z) : ∃ f', runE ws bs z f k = runE ws bs z f' (k + 1) ∧ bs.length - (k + 1) ≤ f' := by
  cases f with
  | zero => omega
  | succ f => exact ⟨f, by rw [runE, if_pos hc], by omega⟩
theorem runE_end {ws bs : List Nat} {z : Bool} {f k : Nat} (hc : ¬ (k < bs.length ∧ tch ws bs k = true ∧ zr bs k = z)) : runE ws bs z f k = k := by
  cases f with
  | zero => rfl
  | succ f => rw [runE, if_neg hc]
theorem chunkF_step {bs : List Nat} {f i k : Nat} (hf : k - i ≤ f) (hc : i < k) : ∃ f', chunkF bs f i k = ⟨1, i, 0, (bs.drop i).take (min k (i + 64) - i)⟩ :: chunkF bs f' (i + 64) k ∧ k - (i + 64) ≤ f' := by
  cases f with
  | zero => omega
  | succ f => exact ⟨f, by rw [chunkF, if_pos hc], by omega⟩
theorem chunkF_end {bs : List Nat} {f i k : Nat} (hc : ¬ i < k) : chunkF bs f i k = [] := by
  cases f with
  | zero => rfl
  | succ f => rw [chunkF, if_neg hc]
section
variable {own own' own'' : Nat → Nat} {h h' h'' : AHeap} {S S' : Nat → Prop} {m : Sm} {id : Nat} {v w : Value} {b : Nat}
def cloD (p2 p3 : Nat) : Value := .func (.func 47) #[] #[.pointer (some ⟨p2, 0, none⟩), .pointer (some ⟨p3, 0, none⟩)]
/-- Where the closure's two volumes stand. -/
structure Two (h : AHeap) (p2 p3 : Nat) (ws bs : List Nat) (va vb : Value) : Prop where
  g2 : h.get p2 = .cells [va] .rw
  g3 : h.get p3 = .cells [vb] .rw
  wa : Words (· < h.next) h ws va
  wb : Words (· < h.next) h bs vb
theorem Two.quiet {p2 p3 : Nat} {ws bs : List Nat} {va vb : Value} (t : Two h p2 p3 ws bs va vb) (q : h.quiet h') : Two h' p2 p3 ws bs va vb :=
  ⟨(q.2 _ (AHeap.lt_of_alive h (by rw [t.g2]; simp))).trans t.g2, (q.2 _ (AHeap.lt_of_alive h (by rw [t.g3]; simp))).trans t.g3, t.wa.mono fun j hj hl => ⟨Nat.lt_of_lt_of_le hl q.1, q.2 j hl⟩, t.wb.mono fun j hj hl => ⟨Nat.lt_of_lt_of_le hl q.1, q.2 j hl⟩⟩
theorem touched_ok {p2 p3 : Nat} {ws bs : List Nat} {va vb : Value} (t : Two h p2 p3 ws bs va vb) {i : Nat} (h1 : i < ws.length) (h2 : i < bs.length) : Does Try.prog 47 #[.int .i64 (i : Nat), .pointer (some ⟨p2, 0, none⟩), .pointer (some ⟨p3, 0, none⟩)] h (fun u h' => u = .bool (tch ws bs i) ∧ h' = h) := by
  obtain ⟨g2, g3, wa, wb⟩ := t
  obtain ⟨a, c, rfl⟩ := wa.shape
  obtain ⟨a2, c2, rfl⟩ := wb.shape
  obtain ⟨b, off, sp, cc, md, x, hA, _, hg, hxi, _, hc⟩ := wa.atN h1
  obtain ⟨b', off', sp', cc', md', y, hA', _, hg', hyi, _, hc'⟩ := wb.atN h2
  have ex : ws.getD i 0 = x := by rw [List.getD, hxi]; rfl
  have ey : bs.getD i 0 = y := by rw [List.getD, hyi]; rfl
  unfold tch
  rw [ex, ey]
  refine spec_go mixed Try.func47 rfl Try.results47 (n := Try.f47.ntmps) (by kernel_rfl) (by simp) ?_
  simp only [go_sem, simprocAttr, g2, g3, hA, hA', hg, hg', hc, hc', h1, h2]
  by_cases e : x = y
  · subst e; simp
  · have e' : ¬ (x : Int) = y := by omega
    simp [e, e']
theorem zr_eq {ws : List Nat} {i : Nat} {x : Nat} (h : ws[i]? = some x) : decide ((x : Int) = 0) = zr ws i := by
  unfold zr
  rw [List.getD, h]
  exact decide_eq_decide.2 (by simp)
theorem out_app {k : AHeap} {out : List Bop} {o : Bop} (q : h.quiet k) (lo : Lst rBopO h.next (h.next ≤ ·) k out w) (hv : OwnSl .u64 (fun j => h.next ≤ j ∧ blk w ≠ some j) k o.data v) (hi : o.inI) (hl : out.length ≤ 1048576) :
    ∃ w' k', aappend (k.push (.cells (o.cs v) .rw)) 4 48 w 1 (o.cs v) = some (w', k') ∧ Lst rBopO h.next (h.next ≤ ·) k' (out ++ [o]) w' ∧ h.quiet k' ∧ ∃ a n c, w' = .slice a n c := by
  have q1 := AHeap.quiet.push k (.cells (o.cs v) .rw)
  have hv1 : OwnSl .u64 (fun j => h.next ≤ j ∧ blk w ≠ some j) (k.push (.cells (o.cs v) .rw)) o.data v := hv.mono fun j hj hl => ⟨hj, q1.2 j hl⟩
  obtain ⟨w', k', e, l', f, _⟩ := (lo.quiet q1).app1 (y := o) (cs := o.cs v) (bytes := 48) 4 rfl (rBopO_iff.2 ⟨v, rfl, hi, hv1⟩) (by omega) (by omega) (Nat.le_trans q.1 q1.1)
  obtain ⟨a, c, rfl, _⟩ := l'.len
  exact ⟨_, k', e, l', Fw.behind (q.trans q1) f (fun j hj => (lo.blk_ge hj).1), _, _, _, rfl⟩
theorem short_ok {p2 p3 : Nat} {ws bs : List Nat} {va vb : Value} (t : Two h p2 p3 ws bs va vb) (hn : ws.length = bs.length) (hl : bs.length ≤ 1024) : Does Try.prog 46 #[vb, cloD p2 p3] h
    (fun u h' => Lst rBopO h.next (h.next ≤ ·) h' (shortF ws bs bs.length 0) u ∧ h.quiet h') := by
  obtain ⟨a, c, rfl⟩ := t.wb.shape
  refine spec_go mixed Try.func46 rfl Try.results46 (n := Try.f46.ntmps) (by kernel_rfl) (by simp) ?_
  simp only [go_sem, simprocAttr]
  refine go_loop (fun z ρ k => ∃ (i : Nat) (out : List Bop) (w : Value), i ≤ bs.length ∧ bs.length - i ≤ z ∧ out ++ shortF ws bs z i = shortF ws bs bs.length 0 ∧ out.length ≤ i ∧ h.quiet k ∧ Lst rBopO h.next (h.next ≤ ·) k out w ∧
    ρ 0 = .slice a bs.length c ∧ ρ 1 = cloD p2 p3 ∧ ρ 5 = w ∧ ρ 6 = .int .i64 i) bs.length ⟨0, [], _, by omega, by omega, by simp, by simp, .refl _, .nil _ _ _ _, by simp only [go_sem, simprocAttr]⟩ ?_
  rintro z ρ k ⟨i, out, w, hi, hz, hsh, hol, q, lo, r0, r1, r5, r6⟩
  have tk := t.quiet q
  simp only [go_sem, simprocAttr, r0, r1, r5, r6]
  refine cnd_decide (fun hy => ?_) (fun hy => ?_)
  · have h1 : i < bs.length := by omega
    have h1w : i < ws.length := by omega
    obtain ⟨f, rfl⟩ : ∃ f, z = f + 1 := ⟨z - 1, by omega⟩
    rw [shortF, if_pos h1] at hsh
    have e6 : IntKind.i64.wrap ((i : Int) + 1) = ((i + 1 : Nat) : Int) := by rw [wi64] <;> omega
    simp only [go_sem, simprocAttr, r0, r1, r5, r6, cloD]
    refine cl_spec (touched_ok tk h1w h1) (fun _ _ _ hc => absurd hc (by decide +kernel)) ?_
    rintro u k' ⟨rfl, rfl⟩
    cases ht : tch ws bs i with
    | false =>
      rw [ht, if_neg Bool.false_ne_true] at hsh
      simp only [go_sem, simprocAttr, r6, e6]
      exact Hold.mk ⟨f, by omega, i + 1, out, w, by omega, by omega, hsh, by omega, q, lo, by simp only [go_sem, simprocAttr, r0, r1, r5, cloD]⟩
    | true =>
      rw [ht, if_pos rfl] at hsh
      simp only [go_sem, simprocAttr, r6, e6]
      obtain ⟨E, hE⟩ : ∃ E, runE ws bs (zr bs i) bs.length (i + 1) = E := ⟨_, rfl⟩
      rw [hE] at hsh
      have hEl := runE_le (ws := ws) (bs := bs) (z := zr bs i) bs.length (i + 1) (by omega)
      rw [hE] at hEl
      obtain ⟨jb, off, sp, cc, md, xi, hA, hSb, hgb, hxi, _, hci⟩ := tk.wb.atN h1
      subst hA
      refine go_cutb (fun ρ k2 => k2 = k' ∧ ρ 0 = .slice (some ⟨jb, off, sp⟩) bs.length c ∧ ρ 1 = cloD p2 p3 ∧ ρ 5 = w ∧ ρ 6 = .int .i64 i ∧ ρ 7 = .int .i64 E) ?_ ?_
      · refine go_loop (fun z ρ k2 => ∃ kk : Nat, i < kk ∧ kk ≤ bs.length ∧ bs.length - kk ≤ z ∧ runE ws bs (zr bs i) z kk = E ∧ k2 = k' ∧ ρ 0 = .slice (some ⟨jb, off, sp⟩) bs.length c ∧ ρ 1 = cloD p2 p3 ∧ ρ 5 = w ∧ ρ 6 = .int .i64 i ∧ ρ 7 = .int .i64 kk) bs.length
          ⟨i + 1, by omega, by omega, by omega, hE, rfl, by simp only [go_sem, simprocAttr, r0, r1, r5, r6, cloD]⟩ ?_
        rintro z ρ2 k2 ⟨kk, hik, hkn, hkz, hrun, rfl, s0, s1, s5, s6, s7⟩
        simp only [go_sem, simprocAttr, s0, s1, s5, s6, s7]
        by_cases c1 : kk < bs.length
        · have c1' : (kk : Int) < bs.length := by omega
          obtain ⟨z', rfl⟩ : ∃ z', z = z' + 1 := ⟨z - 1, by omega⟩
          have e7 : IntKind.i64.wrap ((kk : Int) + 1) = ((kk + 1 : Nat) : Int) := by rw [wi64] <;> omega
          simp only [go_sem, simprocAttr, s0, s1, s5, s6, s7, c1, c1', decide_true, cloD]
          refine cl_spec (touched_ok tk (by omega) c1) (fun _ _ _ hc => absurd hc (by decide +kernel)) ?_
          rintro u k3 ⟨rfl, rfl⟩
          cases htk : tch ws bs kk with
          | false =>
            simp only [go_sem, simprocAttr, s7]
            have hend : runE ws bs (zr bs i) (z' + 1) kk = kk := runE_end (by rw [htk]; simp)
            exact Hold.mk ⟨rfl, by simp only [go_sem, simprocAttr, s0, s1, s5, s6, cloD], by simp only [go_sem, simprocAttr, s0, s1, s5, s6, cloD], by simp only [go_sem, simprocAttr, s0, s1, s5, s6, cloD], by simp only [go_sem, simprocAttr, s0, s1, s5, s6, cloD], by rw [← hrun, hend]; simp only [go_sem, simprocAttr, s7]⟩
          | true =>
            obtain ⟨_, _, _, cc2, md2, xk, hA2, _, hgb2, hxk, _, hck⟩ := tk.wb.atN c1
            cases hA2
            rw [hgb] at hgb2
            cases hgb2
            simp only [go_sem, simprocAttr, s0, s1, s5, s6, s7, hgb, hci, hck, c1, h1]
            rw [zr_eq hxk, zr_eq hxi]
            cases hzz : zr bs kk == zr bs i with
            | false =>
              have hend : runE ws bs (zr bs i) (z' + 1) kk = kk := runE_end (by rintro ⟨_, _, e⟩; rw [e] at hzz; simp at hzz)
              simp only [go_sem, simprocAttr]
              exact Hold.mk ⟨rfl, by simp only [go_sem, simprocAttr, s0, s1, s5, s6, cloD], by simp only [go_sem, simprocAttr, s0, s1, s5, s6, cloD], by simp only [go_sem, simprocAttr, s0, s1, s5, s6, cloD], by simp only [go_sem, simprocAttr, s0, s1, s5, s6, cloD], by rw [← hrun, hend]; simp only [go_sem, simprocAttr, s7]⟩
            | true =>
              have hzz' : zr bs kk = zr bs i := by simpa using hzz
              rw [runE, if_pos ⟨c1, htk, hzz'⟩] at hrun
              simp only [go_sem, simprocAttr, s7, e7]
              exact Hold.mk ⟨z', by omega, kk + 1, by omega, by omega, by omega, hrun, rfl, by simp only [go_sem, simprocAttr, s0, s1, s5, s6, cloD]⟩
        · have c1' : ¬ (kk : Int) < bs.length := by omega
          have hend : runE ws bs (zr bs i) z kk = kk := runE_end (by omega)
          simp only [go_sem, simprocAttr, s7, c1', c1, decide_false]
          exact Hold.mk ⟨rfl, by simp only [go_sem, simprocAttr, s0, s1, s5, s6, cloD], by simp only [go_sem, simprocAttr, s0, s1, s5, s6, cloD], by simp only [go_sem, simprocAttr, s0, s1, s5, s6, cloD], by simp only [go_sem, simprocAttr, s0, s1, s5, s6, cloD], by rw [← hrun, hend]; simp only [go_sem, simprocAttr, s7]⟩
      · rintro ρ2 k2 ⟨rfl, s0, s1, s5, s6, s7⟩
        simp only [go_sem, simprocAttr, s0, s1, s5, s6, s7, h1, hgb, hci]
        rw [zr_eq hxi]
        cases hzi : zr bs i with
        | true =>
          rw [hzi, if_pos rfl] at hsh
          have e53 : IntKind.i64.wrap ((E : Int) - i) = (E : Int) - i := by rw [wi64] <;> omega
          obtain ⟨w', k3, e3, l3, q3, a3, n3, c3, rfl⟩ := out_app (o := ⟨2, i, (E : Int) - i, []⟩) (v := .slice none 0 0) q lo ⟨none, rfl, by simp, by simp, .inl ⟨rfl, fun _ e => by cases e⟩⟩ ⟨by unfold inJ; dsimp only; omega, by unfold inJ; dsimp only; omega, by unfold inJ; dsimp only; omega⟩ (by omega)
          unfold Bop.cs at e3
          simp only [go_sem, simprocAttr, s0, s5, s6, s7, e53, e3]
          exact Hold.mk ⟨f, by omega, E, _, _, by omega, by omega, by rw [← hsh, List.append_assoc], by rw [List.length_append]; simp only [List.length_cons, List.length_nil]; omega, q3, l3, by simp only [go_sem, simprocAttr, s0, s1, cloD]⟩
        | false =>
          rw [hzi, if_neg Bool.false_ne_true] at hsh
          simp only [go_sem, simprocAttr]
          refine go_cutb (fun ρ k2 => ∃ (out' : List Bop) (w' : Value), h.quiet k2 ∧ Lst rBopO h.next (h.next ≤ ·) k2 out' w' ∧ out' ++ shortF ws bs f E = shortF ws bs bs.length 0 ∧ out'.length ≤ E ∧ ρ 0 = .slice (some ⟨jb, off, sp⟩) bs.length c ∧ ρ 1 = cloD p2 p3 ∧ ρ 5 = w' ∧ ρ 7 = .int .i64 E) ?_ ?_
          · refine go_loop (fun z ρ k2 => ∃ (j : Nat) (out' : List Bop) (w' : Value), E - j ≤ z ∧ j < E + 64 ∧ h.quiet k2 ∧ Lst rBopO h.next (h.next ≤ ·) k2 out' w' ∧ out' ++ (chunkF bs z j E ++ shortF ws bs f E) = shortF ws bs bs.length 0 ∧ out'.length ≤ j ∧ out'.length ≤ E ∧
              ρ 0 = .slice (some ⟨jb, off, sp⟩) bs.length c ∧ ρ 1 = cloD p2 p3 ∧ ρ 5 = w' ∧ ρ 6 = .int .i64 j ∧ ρ 7 = .int .i64 E) bs.length ⟨i, out, w, by omega, by omega, q, lo, hsh, by omega, by omega, by simp only [go_sem, simprocAttr, s0, s1, s5, s6, s7, cloD]⟩ ?_
            rintro z ρ3 k3 ⟨j, out', w', hjz, hj64, q3, l3, hs3, ho3, ho3', u0, u1, u5, u6, u7⟩
            simp only [go_sem, simprocAttr, u0, u1, u5, u6, u7]
            refine cnd_decide (fun hyy => ?_) (fun hyy => ?_)
            · have hjE : j < E := by omega
              obtain ⟨z', rfl⟩ : ∃ z', z = z' + 1 := ⟨z - 1, by omega⟩
              rw [chunkF, if_pos hjE] at hs3
              have e69 : IntKind.i64.wrap ((j : Int) + 64) = ((j + 64 : Nat) : Int) := by rw [wi64] <;> omega
              have hwk := (t.quiet q3).wb
              have emin : min (E : Int) ((j + 64 : Nat) : Int) = ((min E (j + 64) : Nat) : Int) := by omega
              obtain ⟨a4, c4, es, hs⟩ := hwk.slice 1 rfl (l := j) (m := min E (j + 64)) (by omega) (by omega)
              simp only [go_sem, simprocAttr, u0, u1, u5, u6, u7, e69, emin, es]
              have hlen : ((bs.drop j).take (min E (j + 64) - j)).length = min E (j + 64) - j := by rw [List.length_take, List.length_drop]; omega
              refine cl_spec (cloneW_ok hs (by rw [hlen]; omega)) (fun _ _ _ hc => absurd hc (by decide +kernel)) ?_
              rintro u k4 ⟨q4, l4⟩
              have how := l4.own (S := fun j => h.next ≤ j ∧ blk w' ≠ some j) fun p hp => ⟨Nat.le_trans q3.1 hp, fun e => by have := (l3.blk_ge e).2; omega⟩
              obtain ⟨a4', c4', rfl, _⟩ := l4.len
              obtain ⟨w5, k5, e5, l5, q5, a5, n5, c5, rfl⟩ := out_app (o := ⟨1, j, 0, (bs.drop j).take (min E (j + 64) - j)⟩) (q3.trans q4) (l3.quiet q4) how ⟨by unfold inJ; dsimp only; omega, by unfold inJ; dsimp only; omega, by unfold inJ; dsimp only; omega⟩ (by omega)
              unfold Bop.cs at e5
              simp only [go_sem, simprocAttr, u0, u1, u5, u6, u7, e5, e69]
              refine Hold.mk ⟨z', by omega, j + 64, _, _, by omega, by omega, q5, l5, by rw [← hs3]; simp, ?_, ?_, by simp only [go_sem, simprocAttr, u0, u1, u7, cloD]⟩
              · rw [List.length_append]; simp only [List.length_cons, List.length_nil]; omega
              · rw [List.length_append]; simp only [List.length_cons, List.length_nil]; omega
            · have hjE : ¬ j < E := by omega
              rw [chunkF_end hjE, List.nil_append] at hs3
              simp only [go_sem, simprocAttr]
              exact Hold.mk ⟨out', w', q3, l3, hs3, ho3', by simp only [go_sem, simprocAttr, u0, u1, u5, u7, cloD]⟩
          · rintro ρ3 k3 ⟨out', w', q3, l3, hs3, ho3, u0, u1, u5, u7⟩
            simp only [go_sem, simprocAttr, u0, u1, u5, u7]
            exact Hold.mk ⟨f, by omega, E, out', w', by omega, by omega, hs3, ho3, q3, l3, by simp only [go_sem, simprocAttr, u0, u1, u5, cloD]⟩
  · have hi' : i = bs.length := by omega
    subst hi'
    have e : shortF ws bs z bs.length = [] := by cases z with
      | zero => rfl
      | succ z => rw [shortF, if_neg (by omega)]
    rw [e, List.append_nil] at hsh
    simp only [go_sem, simprocAttr, r5]
    rw [← hsh]
    exact ⟨lo, q⟩
end
end Go.Proofs.Ytjkganmkfhciiaa
