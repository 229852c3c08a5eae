/- shard: the law Durable: plain law, what may be behind a crash, the walk. -/
import Derived.Test.YtjkganmkfhciiaaShO
import Derived.Test.YtjkganmkfhciiaaShM
set_option linter.unusedSimpArgs false
set_option linter.unusedVariables false
set_option linter.unnecessarySimpa false
set_option maxRecDepth 100000
namespace Go.Proofs.Ytjkganmkfhciiaa
open Go.AM

/-- Where a block lies. -/
def Ext.has (x : Ext) (j : Int) : Prop := x.off ≤ j ∧ j < x.off + x.len
instance (x : Ext) (j : Int) : Decidable (x.has j) := inferInstanceAs (Decidable (_ ∧ _))
def cov : List Ext → Int → Option Int
  | [], _ => none
  | x :: l, j => if x.has j then some (x.phys + j - x.off) else cov l j
theorem cov_cons (x : Ext) (l : List Ext) (j : Int) : cov (x :: l) j = if x.has j then some (x.phys + j - x.off) else cov l j := rfl
theorem cov_yes {x : Ext} {l : List Ext} {j : Int} (h : x.has j) : cov (x :: l) j = some (x.phys + j - x.off) := if_pos h
theorem cov_no {x : Ext} {l : List Ext} {j : Int} (h : ¬ x.has j) : cov (x :: l) j = cov l j := if_neg h
theorem cov_append : ∀ (a b : List Ext) (j : Int), cov (a ++ b) j = (cov a j).or (cov b j)
  | [], _, _ => rfl
  | x :: a, b, j => by
    rw [List.cons_append]
    by_cases h : x.has j
    · rw [cov_yes h, cov_yes h]; rfl
    · rw [cov_no h, cov_no h]; exact cov_append a b j
theorem cov_part {f t : Int} : ∀ (l : List Ext) {j : Int}, cov (partL f t l) j = if f ≤ j ∧ j < t then cov l j else none
  | [], j => by
    show none = _
    by_cases h : f ≤ j ∧ j < t
    · rw [if_pos h]; rfl
    · rw [if_neg h]
  | x :: l, j => by
    rw [partL_cons, cov_append, cov_part l]
    by_cases hl : x.lies f t
    · rw [if_pos hl]
      by_cases hx : x.has j
      · by_cases hj : f ≤ j ∧ j < t
        · have hc : (x.clip f t).has j := by unfold Ext.has at *; unfold Ext.lies at hl; unfold Ext.clip; dsimp only; omega
          rw [cov_yes hc, if_pos hj, if_pos hj, cov_yes hx]
          show some _ = some _
          congr 1
          unfold Ext.clip
          dsimp only
          omega
        · have hc : ¬ (x.clip f t).has j := by unfold Ext.has at *; unfold Ext.lies at hl; unfold Ext.clip; dsimp only; omega
          rw [cov_no hc, if_neg hj, if_neg hj]; rfl
      · have hc : ¬ (x.clip f t).has j := by unfold Ext.has at *; unfold Ext.lies at hl; unfold Ext.clip; dsimp only; omega
        rw [cov_no hc, cov_no hx]; rfl
    · rw [if_neg hl]
      show (if f ≤ j ∧ j < t then cov l j else none) = _
      by_cases hj : f ≤ j ∧ j < t
      · rw [if_pos hj, if_pos hj, cov_no (show ¬ x.has j by unfold Ext.has; unfold Ext.lies at hl; omega)]
      · rw [if_neg hj, if_neg hj]
theorem cov_step {out : List Ext} {y : Ext} (hz : ∀ z ∈ out, 1 ≤ z.len) (hy : 1 ≤ y.len) (j : Int) : cov (jstep out y) j = cov (out ++ [y]) j := by
  rcases List.eq_nil_or_concat out with rfl | ⟨pre, z, rfl⟩
  · rfl
  · rw [List.concat_eq_append] at hz ⊢
    by_cases hm : z.meets y
    · rw [jstep_one hm, List.append_assoc, cov_append, cov_append]
      congr 1
      have hz1 := hz z (by simp)
      unfold Ext.meets at hm
      show cov [z.with y] j = cov [z, y] j
      by_cases h1 : z.has j
      · rw [cov_yes h1, cov_yes (by unfold Ext.has at *; unfold Ext.with; dsimp only; omega)]; rfl
      · rw [cov_no h1]
        by_cases h2 : y.has j
        · rw [cov_yes h2, cov_yes (by unfold Ext.has at *; unfold Ext.with; dsimp only; omega)]
          unfold Ext.with
          dsimp only
          congr 1; omega
        · rw [cov_no h2, cov_no (by unfold Ext.has at *; unfold Ext.with; dsimp only; omega)]
    · unfold jstep
      rw [List.getLast?_concat]
      simp only [if_neg hm]
theorem jstep_pos {out : List Ext} {y : Ext} (hz : ∀ z ∈ out, 1 ≤ z.len) (hy : 1 ≤ y.len) : ∀ z ∈ jstep out y, 1 ≤ z.len := by
  unfold jstep
  intro z h
  split at h
  · rename_i w hw
    split at h
    · rcases List.mem_append.1 h with h | h
      · exact hz z (List.dropLast_subset _ h)
      · obtain rfl : z = w.with y := by simpa using h
        have := hz w (List.mem_of_getLast? hw)
        unfold Ext.with; dsimp only; omega
    · rcases List.mem_append.1 h with h | h
      · exact hz z h
      · obtain rfl : z = y := by simpa using h
        exact hy
  · rcases List.mem_append.1 h with h | h
    · exact hz z h
    · obtain rfl : z = y := by simpa using h
      exact hy
theorem cov_join : ∀ (l out : List Ext) (j : Int), (∀ z ∈ out, 1 ≤ z.len) → (∀ z ∈ l, 1 ≤ z.len) → cov (l.foldl jstep out) j = cov (out ++ l) j
  | [], out, j, _, _ => by simp
  | y :: l, out, j, ho, hl => by
    have hy := hl y (by simp)
    rw [List.foldl_cons, cov_join l _ j (jstep_pos ho hy) fun z hz => hl z (by simp [hz]), cov_append, cov_step ho hy, ← cov_append]
    simp
theorem cov_put {l : List Ext} {x : Ext} (hl : ∀ y ∈ l, y.ok) (hx : x.ok) {j : Int} (h0 : 0 ≤ j) (h1 : j < 1024) : cov (putL l x) j = if x.has j then some (x.phys + j - x.off) else cov l j := by
  have hxo := hx
  unfold Ext.ok at hxo
  have pp : ∀ (f t : Int), ∀ z ∈ partL f t l, 1 ≤ z.len := fun f t z hz => by
    obtain ⟨y, hy, hlies, rfl⟩ := partL_mem.1 hz
    unfold Ext.lies at hlies; unfold Ext.clip; dsimp only; omega
  unfold putL joinL
  rw [cov_join _ [] j (fun z hz => by cases hz) fun z hz => ?_, List.nil_append, cov_append, cov_append, cov_part, cov_part]
  · by_cases hh : x.has j
    · have hh' := hh
      unfold Ext.has at hh'
      rw [if_pos hh, if_neg (by omega), cov_yes hh]; rfl
    · have e : cov [x] j = none := by rw [cov_no hh]; rfl
      rw [if_neg hh, e]
      unfold Ext.has at hh
      by_cases hj : j < x.off
      · rw [if_pos (by omega), if_neg (by omega)]
        cases cov l j <;> rfl
      · rw [if_neg (by omega), if_pos (by omega)]; rfl
  · rcases List.mem_append.1 hz with hz | hz
    · rcases List.mem_append.1 hz with hz | hz
      · exact pp _ _ z hz
      · obtain rfl : z = x := by simpa using hz
        omega
    · exact pp _ _ z hz
theorem cov_cut {l : List Ext} {o n : Int} (hb : Blks o n) {j : Int} (h0 : 0 ≤ j) (h1 : j < 1024) : cov (cutL l o n) j = if o ≤ j ∧ j < o + n then none else cov l j := by
  unfold Blks at hb
  unfold cutL
  rw [cov_append, cov_part, cov_part]
  by_cases hh : o ≤ j ∧ j < o + n
  · rw [if_pos hh, if_neg (by omega), if_neg (by omega)]; rfl
  · rw [if_neg hh]
    by_cases hj : j < o
    · rw [if_pos (by omega), if_neg (by omega)]
      cases cov l j <;> rfl
    · rw [if_neg (by omega), if_pos (by omega)]; rfl
/-- What is seen at a block. -/
def seen (us : List Nat) (l : List Ext) (j : Nat) : Nat := match cov l j with | some u => us.getD u.toNat 0 | none => 0
theorem xput_get {us v : List Nat} {x : Ext} (hx : x.ok) (hu : x.phys + x.len ≤ us.length) {j : Nat} (hj : j < v.length) : (xput us v x)[j]? = some (if x.has j then us.getD (x.phys + j - x.off).toNat 0 else v.getD j 0) := by
  unfold Ext.ok at hx
  have ks : ∀ (n : Nat), n ≤ x.len.toNat → ((List.range n).foldl (kput us x) v).length = v.length ∧ ((List.range n).foldl (kput us x) v)[j]? = some (if x.off ≤ j ∧ (j : Int) < x.off + n then us.getD (x.phys + j - x.off).toNat 0 else v.getD j 0) := by
    intro n
    induction n with
    | zero =>
      intro _
      refine ⟨rfl, ?_⟩
      rw [if_neg (by omega), List.getD, List.range_zero, List.foldl_nil, List.getElem?_eq_getElem hj]; rfl
    | succ n ih =>
      intro hn
      obtain ⟨l1, g1⟩ := ih (by omega)
      rw [List.range_succ, List.foldl_append, List.foldl_cons, List.foldl_nil]
      generalize (List.range n).foldl (kput us x) v = v1 at l1 g1
      refine ⟨by rw [kput_len, l1], ?_⟩
      unfold kput
      rw [if_pos (by omega), List.getElem?_set]
      by_cases e : (x.off + n).toNat = j
      · rw [if_pos e, if_pos (by omega), if_pos (by omega)]
        congr 2; omega
      · rw [if_neg e, g1]
        congr 1
        by_cases c : x.off ≤ j ∧ (j : Int) < x.off + n
        · rw [if_pos c, if_pos (by omega)]
        · rw [if_neg c, if_neg (by omega)]
  unfold xput
  rw [(ks x.len.toNat (Nat.le_refl _)).2]
  congr 1
  by_cases c : x.has j
  · rw [if_pos c, if_pos (by unfold Ext.has at c; omega)]
  · rw [if_neg c, if_neg (by unfold Ext.has at c; omega)]
theorem cov_none {l : List Ext} {x : Ext} {j : Int} (h : ∀ y ∈ l, y.off + y.len ≤ x.off) (hx : x.has j) : cov l j = none := by
  induction l with
  | nil => rfl
  | cons y l ih =>
    have := h y (by simp)
    rw [cov_no (by unfold Ext.has at *; omega)]
    exact ih fun z hz => h z (by simp [hz])
theorem view_get {us : List Nat} {n : Nat} : ∀ (l : List Ext), GoodL l → (∀ x ∈ l, x.phys + x.len ≤ us.length) → ∀ j, j < n → (viewL us n l)[j]? = some (seen us l j) := by
  have key : ∀ (l pre : List Ext), GoodL (pre ++ l) → (∀ x ∈ pre ++ l, x.phys + x.len ≤ us.length) → ∀ v : List Nat, v.length = n → (∀ j, j < n → v[j]? = some (seen us pre j)) → ∀ j, j < n → (l.foldl (xput us) v)[j]? = some (seen us (pre ++ l) j) := by
    intro l
    induction l with
    | nil => intro pre g hu v hv hg j hj; rw [List.append_nil]; exact hg j hj
    | cons x l ih =>
      intro pre g hu v hv hg j hj
      have hx := g.mid
      rw [List.foldl_cons, show pre ++ x :: l = (pre ++ [x]) ++ l by simp]
      have hxl : (xput us v x).length = n := by
        have : ∀ (js : List Nat) (v : List Nat), (js.foldl (kput us x) v).length = v.length := by
          intro js
          induction js with
          | nil => intro v; rfl
          | cons k js ih => intro v; rw [List.foldl_cons, ih, kput_len]
        exact (this _ v).trans hv
      refine ih (pre ++ [x]) (by simpa using g) (by simpa using hu) _ hxl (fun i hi => ?_) j hj
      rw [xput_get hx.2.1 (hu x (by simp)) (by omega)]
      congr 1
      unfold seen
      rw [cov_append]
      by_cases c : x.has i
      · rw [if_pos c, cov_none (fun y hy => (hx.2.2.2.1 y hy).1) c, cov_yes c]; rfl
      · rw [if_neg c]
        have := hg i hi
        rw [List.getD, this]
        have e : cov [x] (i : Int) = none := by rw [cov_no c]; rfl
        unfold seen
        rw [e]
        cases cov pre (i : Int) <;> rfl
  intro l g hu j hj
  have := key l [] (by simpa using g) (by simpa using hu) (List.replicate n 0) (by simp) (fun i hi => by rw [List.getElem?_replicate, if_pos hi]; rfl) j hj
  exact this
theorem cov_lt {l : List Ext} {U : Int} (hok : ∀ x ∈ l, x.ok) (hu : ∀ x ∈ l, x.phys + x.len ≤ U) {j u : Int} (h : cov l j = some u) : 0 ≤ u ∧ u < U := by
  induction l with
  | nil => cases h
  | cons x l ih =>
    rw [cov_cons] at h
    split at h
    · rename_i hx
      cases h
      have h1 := hok x (by simp)
      have h2 := hu x (by simp)
      unfold Ext.ok at h1
      unfold Ext.has at hx
      omega
    · exact ih (fun y hy => hok y (by simp [hy])) (fun y hy => hu y (by simp [hy])) h
/-- A VOLUME BEHIND AN OP. -/
theorem vol_done {m : Sm} {b : Nat} (g : m.good b) (hb : b ≤ 1073741824) {o : Bop} (f : o.fits m.n) {root : Int} (h : Has m.ts root) : (m.done root o).vol m.ts.length = o.app (m.vol root) := by
  have c' := g.core hb f h
  have hn0 := g.c.n0
  have hn1 := g.c.n1
  have hh' : Has (m.done root o).ts m.ts.length := by show Has (m.ts ++ [_]) _; unfold Has; rw [List.length_append]; simp only [List.length_cons, List.length_nil]; omega
  obtain ⟨gt, ft⟩ := g.c.get h
  obtain ⟨gt', ft'⟩ := c'.get hh'
  have htree : (m.done root o).ts.getD (m.ts.length : Int).toNat .nil = m.tree root o := by
    show (m.ts ++ [m.tree root o]).getD _ _ = _
    rw [List.getD, Int.toNat_natCast, List.getElem?_append_right (Nat.le_refl _), Nat.sub_self]; rfl
  have hv : m.vol root = viewL m.us m.n.toNat (m.ts.getD root.toNat .nil).list := by unfold Sm.vol; rw [g.c.part h]
  have hv' : (m.done root o).vol m.ts.length = viewL (m.us ++ o.dat) m.n.toNat (m.tree root o).list := by
    unfold Sm.vol
    rw [show (m.done root o).n = m.n from rfl, c'.part hh', htree]; rfl
  rw [htree] at gt' ft'
  rw [hv, hv']
  apply List.ext_getElem?
  intro j
  have hl1 := viewL_len m.us m.n.toNat (m.ts.getD root.toNat .nil).list
  have hl2 := viewL_len (m.us ++ o.dat) m.n.toNat (m.tree root o).list
  rcases Nat.lt_or_ge j m.n.toNat with hj | hj
  rotate_left
  · rw [List.getElem?_eq_none (by omega), List.getElem?_eq_none (by rw [app_len]; omega)]
  unfold Bop.app
  rw [paint_get, view_get _ gt.1 (fun x hx => (ft x hx).2) j hj, view_get (us := m.us ++ o.dat) _ gt'.1 (fun x hx => (ft' x hx).2) j hj]
  simp only [Option.map_some, Option.some.injEq]
  have old : ∀ u, cov (m.ts.getD root.toNat .nil).list j = some u → (m.us ++ o.dat).getD u.toNat 0 = m.us.getD u.toNat 0 := fun u hu => by
    have := cov_lt gt.1.1 (fun x hx => (ft x hx).2) hu
    rw [List.getD, List.getD, List.getElem?_append_left (by omega)]
  have ge := f.1
  unfold Sm.tree
  rcases f.kd with ⟨h1, h2, h3⟩ | ⟨h1, h2⟩
  · rw [h2] at ge ⊢
    dsimp only at ge ⊢
    rw [if_pos h1]
    have hb' : Blks o.off o.ln := by unfold Blks; omega
    unfold seen
    rw [(Tcut_good gt hb').2, cov_cut hb' (by omega) (by omega)]
    by_cases c : o.off ≤ j ∧ (j : Int) < o.off + o.ln
    · rw [if_pos c, if_pos (by omega)]
      unfold Bop.val
      rw [if_neg (by omega)]
    · rw [if_neg c, if_neg (by omega)]
      split
      · rename_i u hu; exact old u hu
      · rfl
  · rw [h2] at ge ⊢
    dsimp only at ge ⊢
    rw [if_neg (show ¬ o.kd = 2 by omega)]
    have hx := g.ext hb f h1
    unfold seen
    rw [(Tput_good gt hx).2, cov_put gt.1.1 hx (by omega) (by omega)]
    by_cases c : (⟨o.off, o.data.length, m.us.length, m.gen⟩ : Ext).has j
    · rw [if_pos c]
      unfold Ext.has at c
      dsimp only at c ⊢
      rw [if_pos (by omega)]
      unfold Bop.val
      rw [if_pos h1, f.dat.1, List.getD, List.getD, List.getElem?_append_right (by omega)]
      congr 2; omega
    · rw [if_neg c]
      unfold Ext.has at c
      dsimp only at c
      rw [if_neg (by omega)]
      split
      · rename_i u hu; exact old u hu
      · rfl
theorem app_get {o : Bop} {xs : List Nat} {j : Nat} (hj : j < xs.length) : (o.app xs).getD j 0 = if o.off.toNat ≤ j ∧ j < o.off.toNat + o.rng.2.toNat then o.val j else xs.getD j 0 := by
  unfold Bop.app
  rw [List.getD, paint_get, List.getD, List.getElem?_eq_getElem hj]; rfl
/-- What may stand at a block behind a crash. -/
structure May (m : Sm) (ms : List (List Nat)) : Prop where
  len : ms.length = m.n.toNat
  sure : ∀ j l, ms[j]? = some l → (m.vol m.sure).getD j 0 ∈ l
  opn : ∀ o ∈ m.opn, ∀ j l, ms[j]? = some l → o.off.toNat ≤ j → j < o.off.toNat + o.rng.2.toNat → o.val j ∈ l
theorem replay_may {b : Nat} (hb : b ≤ 1073740000) : ∀ (os : List Bop) (ks : List Bool) (m m0 : Sm) (ms : List (List Nat)) (c : Nat), m.good c → c + os.length ≤ b → m.n = m0.n → (∀ o ∈ os, o.fits m.n) → ms.length = m.n.toNat →
    (∀ j l, ms[j]? = some l → (m.vol m.now).getD j 0 ∈ l) → (∀ o ∈ os, ∀ j l, ms[j]? = some l → o.off.toNat ≤ j → j < o.off.toNat + o.rng.2.toNat → o.val j ∈ l) → ∀ j l, ms[j]? = some l → ((m.replay os ks).vol (m.replay os ks).now).getD j 0 ∈ l
  | [], _, _, _, _, _, _, _, _, _, _, hs, _ => hs
  | _ :: _, [], _, _, _, _, _, _, _, _, _, hs, _ => hs
  | o :: os, k :: ks, m, m0, ms, c, g, hc, hn, hf, hl, hs, ho => by
    rw [Sm.replay_cons]
    simp only [List.length_cons] at hc
    cases k with
    | false =>
      rw [if_neg Bool.false_ne_true]
      exact replay_may hb os ks m m0 ms c g (by omega) hn (fun x hx => hf x (by simp [hx])) hl hs fun x hx => ho x (by simp [hx])
    | true =>
      rw [if_pos rfl]
      have f := hf o (by simp)
      refine replay_may hb os ks (m.go o) m0 ms (c + 1) (g.step (by omega) f) (by omega) hn (fun x hx => hf x (by simp [hx])) hl (fun j l hj => ?_) fun x hx => ho x (by simp [hx])
      have e : (m.go o).vol (m.go o).now = o.app (m.vol m.now) := vol_done g (by omega) f g.now
      rw [e]
      have hjl : j < (m.vol m.now).length := by rw [m.vol_len, ← hl]; exact (List.getElem?_eq_some_iff.1 hj).1
      rw [app_get hjl]
      split
      · rename_i hr; exact ho o (by simp) j l hj hr.1 hr.2
      · exact hs j l hj
/-- Behind a crash each block is one of those. -/
theorem crash_may {m : Sm} {b : Nat} (g : m.good b) (hb : b ≤ 1073730000) {ms : List (List Nat)} (hm : May m ms) (keep : List Bool) {j : Nat} {l : List Nat} (hj : ms[j]? = some l) : ((m.crash keep).vol (m.crash keep).now).getD j 0 ∈ l := by
  have g1 : ({ m with now := m.sure } : Sm).good b := by
    obtain ⟨a1, a2, a3, a4, a5, a6, a7, a8, a9, a10, a11, a12⟩ := g
    exact ⟨a1, a3, a3, a4, a5, a6, a7, a8, a9, a10, a11, a12⟩
  have e : (m.crash keep).vol (m.crash keep).now = (({ m with now := m.sure } : Sm).replay m.opn keep).vol (({ m with now := m.sure } : Sm).replay m.opn keep).now := rfl
  rw [e]
  exact replay_may (b := b + 256) (by omega) m.opn keep { m with now := m.sure } m ms b g1 (by have := g.ol; omega) rfl g.op hm.len hm.sure hm.opn j l hj
/-- What is sure now. -/
theorem May.fix {m : Sm} (h1 : m.sure = m.now) (h2 : m.opn = []) : May m ((m.vol m.now).map fun x => [x]) := by
  refine ⟨by rw [List.length_map, m.vol_len], fun j l hj => ?_, fun o ho => by rw [h2] at ho; cases ho⟩
  rw [List.getElem?_map, Option.map_eq_some_iff] at hj
  obtain ⟨x, hx, rfl⟩ := hj
  rw [h1, List.getD, hx]; simp

theorem act_do {m : Sm} {a : SAct} (hk : a.kd % 8 = 0) (h0 : (m.act a).1 = 0) : a.op.fits m.n ∧ m.opn.length < 256 ∧ (m.act a).2 = { m.go a.op with opn := m.opn ++ [a.op] } := by
  unfold Sm.act at *
  rw [if_pos hk] at h0 ⊢
  unfold Sm.doOp at *
  by_cases c1 : a.op.fits m.n
  · rw [if_neg (Decidable.not_not.2 c1)] at h0 ⊢
    by_cases c2 : m.frozen = true
    · rw [if_pos c2] at h0; cases h0
    · rw [if_neg c2] at h0 ⊢
      by_cases c3 : 256 ≤ m.opn.length
      · rw [if_pos c3] at h0; cases h0
      · rw [if_neg c3]; exact ⟨c1, by omega, rfl⟩
  · rw [if_pos c1] at h0; cases h0
theorem act_sure {m : Sm} {a : SAct} (hk : a.kd % 8 = 6 ∨ ((m.act a).1 = 0 ∧ (a.kd % 8 = 1 ∨ a.kd % 8 = 3 ∨ a.kd % 8 = 5))) : (m.act a).2.sure = (m.act a).2.now ∧ (m.act a).2.opn = [] := by
  unfold Sm.act at *
  rcases hk with k6 | ⟨h0, k1 | k3 | k5⟩
  · rw [if_neg (by omega), if_neg (by omega), if_neg (by omega), if_neg (by omega), if_neg (by omega), if_neg (by omega), if_pos k6]; exact ⟨rfl, rfl⟩
  · rw [if_neg (by omega), if_pos k1]; exact ⟨rfl, rfl⟩
  · rw [if_neg (by omega), if_neg (by omega), if_neg (by omega), if_pos k3] at h0 ⊢
    unfold Sm.snap at *
    by_cases c1 : a.id < 1
    · rw [if_pos c1] at h0; cases h0
    rw [if_neg c1] at h0 ⊢
    by_cases c2 : (m.find a.id).2 = 0
    · rw [if_pos c2] at h0; cases h0
    rw [if_neg c2] at h0 ⊢
    by_cases c3 : 32 ≤ m.snaps.length
    · rw [if_pos c3] at h0; cases h0
    rw [if_neg c3]; exact ⟨rfl, rfl⟩
  · rw [if_neg (by omega), if_neg (by omega), if_neg (by omega), if_neg (by omega), if_neg (by omega), if_pos k5] at h0 ⊢
    unfold Sm.rollback at *
    dsimp only at h0 ⊢
    by_cases c1 : (m.find a.id).2 ≠ 0
    · rw [if_pos c1] at h0; exact absurd h0 c1
    · rw [if_neg c1] at h0
      by_cases c2 : m.frozen = true
      · rw [if_pos c2] at h0; cases h0
      · rw [if_neg (by rintro (e | e) <;> contradiction)]; exact ⟨rfl, rfl⟩
theorem act_keep {m : Sm} {a : SAct} (h1 : ¬ (a.kd % 8 = 0 ∧ (m.act a).1 = 0)) (h2 : ¬ (a.kd % 8 = 6 ∨ ((m.act a).1 = 0 ∧ (a.kd % 8 = 1 ∨ a.kd % 8 = 3 ∨ a.kd % 8 = 5)))) : (m.act a).2.sure = m.sure ∧ (m.act a).2.opn = m.opn := by
  unfold Sm.act at *
  by_cases k0 : a.kd % 8 = 0
  · rw [if_pos k0] at h1 ⊢
    unfold Sm.doOp at *
    by_cases c1 : a.op.fits m.n
    · rw [if_neg (Decidable.not_not.2 c1)] at h1 ⊢
      by_cases c2 : m.frozen = true
      · rw [if_pos c2]; exact ⟨rfl, rfl⟩
      · rw [if_neg c2] at h1 ⊢
        by_cases c3 : 256 ≤ m.opn.length
        · rw [if_pos c3]; exact ⟨rfl, rfl⟩
        · rw [if_neg c3] at h1; exact absurd ⟨k0, rfl⟩ h1
    · rw [if_pos c1]; exact ⟨rfl, rfl⟩
  rw [if_neg k0] at h2 ⊢
  by_cases k1 : a.kd % 8 = 1
  · rw [if_pos k1] at h2; exact absurd (.inr ⟨rfl, .inl k1⟩) h2
  rw [if_neg k1] at h2 ⊢
  by_cases k2 : a.kd % 8 = 2
  · rw [if_pos k2]; exact ⟨rfl, rfl⟩
  rw [if_neg k2] at h2 ⊢
  by_cases k3 : a.kd % 8 = 3
  · rw [if_pos k3] at h2 ⊢
    unfold Sm.snap at *
    by_cases c1 : a.id < 1
    · rw [if_pos c1]; exact ⟨rfl, rfl⟩
    rw [if_neg c1] at h2 ⊢
    by_cases c2 : (m.find a.id).2 = 0
    · rw [if_pos c2]; exact ⟨rfl, rfl⟩
    rw [if_neg c2] at h2 ⊢
    by_cases c3 : 32 ≤ m.snaps.length
    · rw [if_pos c3]; exact ⟨rfl, rfl⟩
    rw [if_neg c3] at h2; exact absurd (.inr ⟨rfl, .inr (.inl k3)⟩) h2
  rw [if_neg k3] at h2 ⊢
  by_cases k4 : a.kd % 8 = 4
  · rw [if_pos k4]; unfold Sm.delete; split <;> exact ⟨rfl, rfl⟩
  rw [if_neg k4] at h2 ⊢
  by_cases k5 : a.kd % 8 = 5
  · rw [if_pos k5] at h2 ⊢
    unfold Sm.rollback at *
    dsimp only at h2 ⊢
    by_cases c1 : (m.find a.id).2 ≠ 0
    · rw [if_pos (.inl c1)]; exact ⟨rfl, rfl⟩
    · by_cases c2 : m.frozen = true
      · rw [if_pos (.inr c2)]; exact ⟨rfl, rfl⟩
      · rw [if_neg c1, if_neg c2] at h2; exact absurd (.inr ⟨rfl, .inr (.inr k5)⟩) h2
  rw [if_neg k5] at h2 ⊢
  by_cases k6 : a.kd % 8 = 6
  · exact absurd (.inl k6) h2
  rw [if_neg k6]; exact ⟨rfl, rfl⟩
/-- .. while nothing is done. -/
theorem May.keep {m m' : Sm} {b : Nat} {ms : List (List Nat)} (hm : May m ms) (g : m.good b) (gr : m.Grow m') (h1 : m'.sure = m.sure) (h2 : m'.opn = m.opn) : May m' ms :=
  ⟨by rw [gr.1]; exact hm.len, fun j l hj => by rw [h1, vol_grow g.c g.sure gr]; exact hm.sure j l hj, fun o ho => hm.opn o (h2 ▸ ho)⟩
/-- What may be, and what was seen now. -/
def addM (ms : List (List Nat)) (off k : Nat) (f : Nat → Nat) : List (List Nat) := ms.mapIdx fun j l => if off ≤ j ∧ j < off + k then l ++ [f j] else l
theorem addM_get (ms : List (List Nat)) (off k : Nat) (f : Nat → Nat) (j : Nat) : (addM ms off k f)[j]? = (ms[j]?).map fun l => if off ≤ j ∧ j < off + k then l ++ [f j] else l := by simp [addM, List.getElem?_mapIdx]
theorem addM_len (ms : List (List Nat)) (off k : Nat) (f : Nat → Nat) : (addM ms off k f).length = ms.length := by simp [addM]
theorem addM_zero (ms : List (List Nat)) (off : Nat) (f : Nat → Nat) : addM ms off 0 f = ms := by
  apply List.ext_getElem?
  intro j
  rw [addM_get]
  cases ms[j]? with
  | none => rfl
  | some l => simp only [Option.map_some]; rw [if_neg (by omega)]
theorem addM_succ {ms : List (List Nat)} {off k : Nat} {f : Nat → Nat} {l : List Nat} (h : (addM ms off k f)[off + k]? = some l) : (addM ms off k f).set (off + k) (l ++ [f (off + k)]) = addM ms off (k + 1) f := by
  apply List.ext_getElem?
  intro j
  rw [List.getElem?_set]
  by_cases e : off + k = j
  · subst e
    rw [if_pos rfl, if_pos (List.getElem?_eq_some_iff.1 h).1, addM_get]
    rw [addM_get] at h
    cases hm : ms[off + k]? with
    | none => rw [hm] at h; cases h
    | some l' =>
      rw [hm] at h
      simp only [Option.map_some, Option.some.injEq] at h ⊢
      rw [if_neg (by omega)] at h
      rw [if_pos (by omega), h]
  · rw [if_neg e, addM_get, addM_get]
    cases ms[j]? with
    | none => rfl
    | some l' =>
      simp only [Option.map_some]
      by_cases c : off ≤ j ∧ j < off + k
      · rw [if_pos c, if_pos (by omega)]
      · rw [if_neg c, if_neg (by omega)]
theorem May.add {m : Sm} {b : Nat} (g : m.good b) (hb : b ≤ 1073741824) {ms : List (List Nat)} (hm : May m ms) {o : Bop} (f : o.fits m.n) {m' : Sm} (hm' : m' = { m.go o with opn := m.opn ++ [o] }) : May m' (addM ms o.off.toNat o.rng.2.toNat fun j => (m'.vol m'.now).getD j 0) := by
  have gr : m.Grow m' := by rw [hm']; exact go_grow m o
  have hv : m'.vol m'.now = o.app (m.vol m.now) := by rw [hm']; exact vol_done g hb f g.now
  refine ⟨by rw [addM_len, gr.1]; exact hm.len, fun j l hj => ?_, fun o' ho' j l hj h1 h2 => ?_⟩
  · rw [addM_get, Option.map_eq_some_iff] at hj
    obtain ⟨l', hl', rfl⟩ := hj
    have e : m'.sure = m.sure := by rw [hm']; rfl
    rw [e, vol_grow g.c g.sure gr]
    have := hm.sure j l' hl'
    split
    · exact List.mem_append.2 (.inl this)
    · exact this
  · rw [addM_get, Option.map_eq_some_iff] at hj
    obtain ⟨l', hl', rfl⟩ := hj
    have e : m'.opn = m.opn ++ [o] := by rw [hm']
    rw [e] at ho'
    rcases List.mem_append.1 ho' with ho' | ho'
    · have := hm.opn o' ho' j l' hl' h1 h2
      split
      · exact List.mem_append.2 (.inl this)
      · exact this
    · obtain rfl : o' = o := by simpa using ho'
      rw [if_pos ⟨h1, h2⟩, hv, app_get (by rw [m.vol_len, ← hm.len]; exact (List.getElem?_eq_some_iff.1 hl').1), if_pos ⟨h1, h2⟩]
      simp
/-! How it stands. -/
def MayAt (own : Nat → Nat) (h : AHeap) (mid : Nat) (ms : List (List Nat)) : Prop := own mid = 21 ∧ ∃ vs, h.get mid = .cells vs .rw ∧ All2 (fun l v => Words (fun j => own j = 0) h l v) ms vs
def durT (t : Nat) : Prop := shT t ∨ t = 21
section
variable {T : Nat → Prop} {own own' own'' : Nat → Nat} {h h' h'' : AHeap} {S S' : Nat → Prop} {m : Sm} {id mid : Nat} {v w : Value} {b : Nat} {ms : List (List Nat)}
theorem MayAt.lt (a : MayAt own h mid ms) : mid < h.next := by obtain ⟨_, vs, hg, _⟩ := a; exact AHeap.lt_of_alive h (by rw [hg]; simp)
theorem MayAt.ks (a : MayAt own h mid ms) (k : Ks T own h own' h') (h0 : ¬ T 0) (h21 : ¬ T 21) : MayAt own' h' mid ms := by
  have hl := a.lt
  obtain ⟨ho, vs, hg, ha⟩ := a
  exact ⟨(k.tg h21 mid ho hl).1, vs, (k.tg h21 mid ho hl).2.trans hg, ha.mono fun l v _ _ hw => hw.mono fun j hj hlt => k.tg h0 j hj hlt⟩
/-- One list more stands in the place of another. -/
theorem MayAt.set (a : MayAt own h mid ms) {i : Nat} {l : List Nat} {w : Value} (hw : Words (fun j => own j = 0) h l w) {vs : List Value} (hg : h.get mid = .cells vs .rw) : MayAt own (h.set mid (.cells (vs.set i w) .rw)) mid (ms.set i l) := by
  have hl := a.lt
  obtain ⟨ho, vs', hg', ha⟩ := a
  rw [hg] at hg'
  cases hg'
  have keep : ∀ {l : List Nat} {v : Value}, Words (fun j => own j = 0) h l v → Words (fun j => own j = 0) (h.set mid (.cells (vs.set i w) .rw)) l v := fun hw => hw.mono fun j hj _ => ⟨hj, AHeap.get_set_ne _ _ (by rintro rfl; rw [ho] at hj; cases hj)⟩
  exact ⟨ho, _, AHeap.get_set_self _ _ hl, (ha.mono fun _ _ _ _ e => keep e).set (keep hw)⟩
theorem MayAt.vlen (a : MayAt own h mid ms) {vs : List Value} (hg : h.get mid = .cells vs .rw) : vs.length = ms.length := by
  obtain ⟨ho, vs', hg', ha⟩ := a
  rw [hg] at hg'
  cases hg'
  exact ha.1.symm
theorem MayAt.elem (a : MayAt own h mid ms) {vs : List Value} (hg : h.get mid = .cells vs .rw) {i : Nat} {l : List Nat} (hi : ms[i]? = some l) : ∃ v, vs[i]? = some v ∧ Words (fun j => own j = 0) h l v := by
  obtain ⟨ho, vs', hg', ha⟩ := a
  rw [hg] at hg'
  cases hg'
  exact ha.get hi
/-- All is as it is now. -/
theorem fix_ok (a : ShAt own h id m) (g : m.good b) {N : Nat} (hN : N < 64) (hmn : m.n = N) (hm : MayAt own h mid ms) (hml : ms.length = N) {p7 p3 p9 : Nat} (g7 : h.get p7 = .cells [.pointer (some ⟨id, 0, none⟩)] .rw) (g3 : h.get p3 = .cells [.int .i64 N] .rw) (g9 : h.get p9 = .cells [.slice (some ⟨mid, 0, none⟩) N N] .rw)
    (h7 : own p7 = 0) (h3 : own p3 = 0) (h9 : own p9 = 0) : Does Try.prog 19 #[.pointer (some ⟨p7, 0, none⟩), .pointer (some ⟨p3, 0, none⟩), .pointer (some ⟨p9, 0, none⟩)] h
    (fun u h' => u = .tuple #[] ∧ ∃ own', ShAt own' h' id m ∧ MayAt own' h' mid ((m.vol m.now).map fun x => [x]) ∧ Ks (· = 21) own h own' h') := by
  have hrd : readL (m.vol m.now) 0 N = (m.vol m.now, 0) := by rw [← hmn]; exact readL_all g m.now
  have hvl : (m.vol m.now).length = N := by rw [m.vol_len, hmn]; rfl
  refine spec_go mixed Try.func19 rfl Try.results19 (n := Try.f19.ntmps) (by kernel_rfl) (by simp) ?_
  simp only [go_sem, simprocAttr, g7, g3]
  refine cl_spec (sRead_ok a g (off := 0) (n := N) (by unfold inJ; omega) (by unfold inJ; omega)) (fun _ _ _ hc => absurd hc (by decide +kernel)) ?_
  rw [hrd]
  rintro u k ⟨w1, rfl, wr, q⟩
  have hm1 := hm.ks (T := fun _ => False) (.quiet q 0) (fun e => e) (fun e => e)
  have a1 := a.quiet q 0
  have wr1 : Words (fun j => bump own h 0 j = 0) k (m.vol m.now) w1 := wr.weaken fun j hj => bump_ge hj
  have kk1 : Ks (· = 21) own h (bump own h 0) k := .quiet q 0
  have l9 := AHeap.lt_of_alive h (i := p9) (by rw [g9]; simp)
  have g91 := (q.2 _ l9).trans g9
  have h91 : bump own h 0 p9 = 0 := (bump_lt l9).trans h9
  generalize bump own h 0 = ow at hm1 a1 wr1 kk1 h91
  obtain ⟨a2, c2, rfl⟩ := wr1.shape
  rw [hvl] at wr1 ⊢
  simp only [go_sem, simprocAttr, g91]
  refine go_loop (fun z ρ k2 => ∃ (i : Nat) (ms' : List (List Nat)), i ≤ N ∧ z = N - i ∧ MayAt ow k2 mid ms' ∧ ms'.length = N ∧ ms'.take i = ((m.vol m.now).map fun x => [x]).take i ∧ Ks (· = 21) ow k ow k2 ∧
    ρ 2 = .pointer (some ⟨p9, 0, none⟩) ∧ ρ 3 = .slice a2 N c2 ∧ ρ 13 = .int .i64 N ∧ ρ 14 = .int .i64 i) N ⟨0, ms, by omega, by omega, hm1, hml, by simp, .refl, by simp only [go_sem, simprocAttr]⟩ ?_
  rintro z ρ k2 ⟨i, ms', hi, rfl, hm2, hl2, ht2, kk2, r2, r3, r13, r14⟩
  simp only [go_sem, simprocAttr, r2, r3, r13, r14]
  refine cnd_decide (fun hy => ?_) (fun hy => ?_)
  · have h1 : i < N := by omega
    have e14 : IntKind.i64.wrap ((i : Int) + 1) = ((i + 1 : Nat) : Int) := by rw [wi64] <;> omega
    have g92 := ((kk2.2 p9 (Nat.lt_of_lt_of_le l9 q.1)).2 (by rw [h91]; decide)).trans g91
    have wr2 : Words (fun j => ow j = 0) k2 (m.vol m.now) (.slice a2 N c2) := wr1.mono fun j hj hl => ⟨hj, (kk2.2 j hl).2 (by rw [hj]; decide)⟩
    obtain ⟨a3, c3, es, hs⟩ := wr2.slice 1 rfl (l := i) (m := i + 1) (by omega) (by omega)
    have hm2c := hm2
    obtain ⟨_, vs, hgm, _⟩ := hm2c
    have hvs := hm2.vlen hgm
    have h2 : i + 1 ≤ vs.length := by omega
    have es' : slI 1 a2 N c2 (some (i : Int)) (some ((i + 1 : Nat) : Int)) = some (.slice a3 (i + 1 - i) c3) := es
    have h1' : (i : Int) < N := by omega
    obtain ⟨x, hx⟩ : ∃ x, (m.vol m.now)[i]? = some x := ⟨_, List.getElem?_eq_getElem (by omega)⟩
    have el : ((m.vol m.now).drop i).take (i + 1 - i) = [x] := by rw [drop_cons hx, show i + 1 - i = 1 by omega]; rfl
    rw [el] at hs
    have hm3 := hm2.set (i := i) hs hgm
    have k23 : Ks (· = 21) ow k2 ow (k2.set mid (.cells (vs.set i (.slice a3 (i + 1 - i) c3)) .rw)) := .set (T := (· = 21)) hm2.1 _
    simp only [go_sem, simprocAttr, r2, r3, r13, r14, g92, e14, es', h1, h1', hgm, h2]
    refine Hold.mk ⟨N - (i + 1), by omega, i + 1, ms'.set i [x], by omega, rfl, hm3, by simpa using hl2, ?_, kk2.trans k23, ?_⟩
    · rw [List.take_add_one, List.take_set_of_le (Nat.le_refl _), ht2, List.getElem?_set_self (by omega), List.take_add_one, List.getElem?_map, hx]; rfl
    · simp only [go_sem, simprocAttr, r2, r3, r13]
  · have hi' : i = N := by omega
    subst hi'
    rw [List.take_of_length_le (by omega), List.take_of_length_le (by rw [List.length_map]; omega)] at ht2
    simp only [go_sem, simprocAttr]
    exact ⟨ow, a1.ks kk2 (by omega) (by decide), by rw [← ht2]; exact hm2, kk1.trans kk2⟩
end

section
variable {own own' own'' : Nat → Nat} {h h' h'' : AHeap} {S S' : Nat → Prop} {m : Sm} {id mid : Nat} {v w : Value} {b : Nat} {ms : List (List Nat)}
theorem azeros_nil (n : Nat) : azeros [.slice none 0 0] n = List.replicate n (.slice none 0 0) := by
  apply List.ext_getElem
  · simp [azeros]
  · intro i _ _
    simp [azeros, Nat.mod_one]
/-- The law's own variables. -/
def Bx (ow : Nat → Nat) (k : AHeap) (id mid i3 i7 i9 N : Nat) : Prop := (k.get i3 = .cells [.int .i64 (N : Int)] .rw ∧ ow i3 = 0) ∧ (k.get i7 = .cells [.pointer (some ⟨id, 0, none⟩)] .rw ∧ ow i7 = 0) ∧ (k.get i9 = .cells [.slice (some ⟨mid, 0, none⟩) N N] .rw ∧ ow i9 = 0)
theorem Bx.ks {T : Nat → Prop} {i3 i7 i9 N : Nat} (b : Bx own h id mid i3 i7 i9 N) (k : Ks T own h own' h') (h0 : ¬ T 0) : Bx own' h' id mid i3 i7 i9 N := by
  obtain ⟨⟨a1, a2⟩, ⟨b1, b2⟩, c1, c2⟩ := b
  have f := fun (j : Nat) (x : List Value) (hg : h.get j = .cells x .rw) (ho : own j = 0) => k.tg h0 j ho (AHeap.lt_of_alive h (by rw [hg]; simp))
  exact ⟨⟨(f _ _ a1 a2).2.trans a1, (f _ _ a1 a2).1⟩, ⟨(f _ _ b1 b2).2.trans b1, (f _ _ b1 b2).1⟩, (f _ _ c1 c2).2.trans c1, (f _ _ c1 c2).1⟩
theorem durableLaw_ok {n : Int} {xs : List SAct} {vs : Value} {ks : List Bool} {kv : Value} (hn : inI n) (hx : IsSl rSAct (· < h.next) h xs vs) (hk : IsSl rBool (· < h.next) h ks kv) (hxl : xs.length ≤ 1048576) :
    Does Try.prog 6 #[.int .i64 n, vs, kv] h (fun u h' => u = .bool true ∧ h.quiet h') := by
  obtain ⟨ax, cx, rfl⟩ := hx.shape
  obtain ⟨ak, ck, rfl⟩ := hk.shape
  obtain ⟨N, hN, eN⟩ := and63 n
  obtain ⟨X, hX⟩ : ∃ X, Value.int .i64 n = X := ⟨_, rfl⟩
  have hXc : X.cells = #[X] := by rw [← hX]; rfl
  unfold Value.cells at hXc
  rw [hX] at eN ⊢
  refine spec_goH [18] mixed Try.func6 rfl Try.results6 (n := Try.f6.ntmps) (by kernel_rfl) (by simp) ?_
  simp only [go_sem, simprocAttr, go_regionH, rg_false, rg_true, List.contains_cons, List.contains_nil, beq_self_eq_true, Bool.or_false, Bool.false_or, Bool.true_or, Nat.reduceBEq, eN, hXc]
  have qn : h.quiet (h.push (.cells [.int .i64 (N : Int)] .rw)) := .push _ _
  have g3 : (h.push (.cells [.int .i64 (N : Int)] .rw)).get h.next = .cells [.int .i64 (N : Int)] .rw := by simp
  have l3 : h.next < (h.push (.cells [.int .i64 (N : Int)] .rw)).next := by simp
  generalize h.push (.cells [.int .i64 (N : Int)] .rw) = h0 at qn g3 l3
  refine cl_spec (snew_ok (own := fun _ => 0) (n := N) (by unfold inI; omega)) (fun _ _ _ hc => absurd hc (by decide +kernel)) ?_
  rintro u k ⟨q, ⟨_, _, id, ow, rfl, hid, a, k0⟩ | ⟨h4, _⟩⟩
  rotate_left
  · exact absurd (by omega) h4
  simp only [go_sem, simprocAttr, go_regionH, rg_false, rg_true, List.contains_cons, List.contains_nil, beq_self_eq_true, Bool.or_false, Bool.false_or, Bool.true_or, Nat.reduceBEq, eq_self]
  have q7 : k.quiet (k.push (.cells [.pointer (some ⟨id, 0, none⟩)] .rw)) := .push _ _
  have g7 : (k.push (.cells [.pointer (some ⟨id, 0, none⟩)] .rw)).get k.next = .cells [.pointer (some ⟨id, 0, none⟩)] .rw := by simp
  have l7 : k.next < (k.push (.cells [.pointer (some ⟨id, 0, none⟩)] .rw)).next := by simp
  generalize k.push (.cells [.pointer (some ⟨id, 0, none⟩)] .rw) = k1 at q7 g7 l7
  refine cl_spec alive_ok (fun _ _ _ hc => absurd hc (by decide +kernel)) ?_
  rintro u k2 ⟨rfl, q2⟩
  have g32 := ((q.trans (q7.trans q2)).2 _ l3).trans g3
  have l32 := Nat.lt_of_lt_of_le l3 (q.trans (q7.trans q2)).1
  have g72 := (q2.2 _ l7).trans g7
  have l72 := Nat.lt_of_lt_of_le l7 q2.1
  have am := a.quiet (q7.trans q2) 0
  have kqn : Ks durT (fun _ => 0) h (fun _ => 0) h0 := ⟨qn.1, fun j hj => ⟨rfl, fun _ => qn.2 j hj⟩⟩
  have kk : Ks durT (fun _ => 0) h (bump ow k 0) k2 := (kqn.trans (k0.weaken fun t e => e.elim)).trans (.quiet (q7.trans q2) 0)
  have o7 : bump ow k 0 k.next = 0 := bump_ge (Nat.le_refl _)
  have o3 : bump ow k 0 h.next = 0 := (bump_lt (Nat.lt_of_lt_of_le l3 q.1)).trans (k0.2 _ l3).1
  obtain ⟨i7, hi7⟩ : ∃ i7, k.next = i7 := ⟨_, rfl⟩
  obtain ⟨i3, hi3⟩ : ∃ i3, h.next = i3 := ⟨_, rfl⟩
  generalize bump ow k 0 = ow1 at am kk o7 o3
  rw [hi7] at g72 o7 l72 ⊢
  rw [hi3] at g32 o3 l32 ⊢
  have hz : (if N ≤ N ∧ 24 * (N : Int) ≤ 281474976710656 ∧ (N : Int) ≤ 281474976710656 then some (Value.slice (some ⟨k2.next, 0, none⟩) N N, k2.push (.cells (azeros [.slice none 0 0] N) .rw)) else none) = some (Value.slice (some ⟨k2.next, 0, none⟩) N N, k2.push (.cells (List.replicate N (.slice none 0 0)) .rw)) := by
    rw [if_pos (by omega), azeros_nil]
  simp only [go_sem, simprocAttr, go_regionH, rg_false, rg_true, List.contains_cons, List.contains_nil, beq_self_eq_true, Bool.or_false, Bool.false_or, Bool.true_or, Nat.reduceBEq, g32, hz]
  have q3 : k2.quiet (k2.push (.cells (List.replicate N (.slice none 0 0)) .rw)) := .push _ _
  have gm3 : (k2.push (.cells (List.replicate N (.slice none 0 0)) .rw)).get k2.next = .cells (List.replicate N (.slice none 0 0)) .rw := by simp
  have n3 : (k2.push (.cells (List.replicate N (.slice none 0 0)) .rw)).next = k2.next + 1 := by simp
  generalize k2.push (.cells (List.replicate N (.slice none 0 0)) .rw) = k3 at q3 gm3 n3
  have q4 : k3.quiet (k3.push (.cells [.slice (some ⟨k2.next, 0, none⟩) N N] .rw)) := .push _ _
  have g9 : (k3.push (.cells [.slice (some ⟨k2.next, 0, none⟩) N N] .rw)).get (k2.next + 1) = .cells [.slice (some ⟨k2.next, 0, none⟩) N N] .rw := by rw [← n3]; simp
  have o21 : bump (bump ow1 k2 21) k3 0 k2.next = 21 := (bump_lt (by omega)).trans (bump_ge (Nat.le_refl _))
  have o9 : bump (bump ow1 k2 21) k3 0 (k2.next + 1) = 0 := bump_ge (by omega)
  have kk4 : Ks durT ow1 k2 (bump (bump ow1 k2 21) k3 0) (k3.push (.cells [.slice (some ⟨k2.next, 0, none⟩) N N] .rw)) := (Ks.quiet q3 21).trans (.quiet q4 0)
  have am4 := (am.quiet q3 21).quiet q4 0
  have gm4 := (q4.2 _ (by omega)).trans gm3
  have g34 := ((q3.trans q4).2 _ l32).trans g32
  have g74 := ((q3.trans q4).2 _ l72).trans g72
  have o34 := (kk4.2 _ l32).1.trans o3
  have o74 := (kk4.2 _ l72).1.trans o7
  have kk5 := kk.trans kk4
  generalize bump (bump ow1 k2 21) k3 0 = ow4 at o21 o9 kk5 am4 o34 o74
  generalize k3.push (.cells [.slice (some ⟨k2.next, 0, none⟩) N N] .rw) = k4 at g9 gm4 g34 g74 kk5 am4
  generalize k2.next = mid at g9 gm4 o21 o9
  have gn := Sm.new_good (n := N) (by omega) (by omega)
  have hmay : MayAt ow4 k4 mid (List.replicate N []) := ⟨o21, _, gm4, by simp, fun i l v h1 h2 => by
    rw [List.getElem?_replicate] at h1 h2
    split at h1
    · rw [if_pos (by assumption)] at h2
      cases h1; cases h2; exact IsSl.nil _ _ _
    · cases h1⟩
  have hbx : Bx ow4 k4 id mid i3 i7 (mid + 1) N := ⟨⟨g34, o34⟩, ⟨g74, o74⟩, ⟨g9, o9⟩⟩
  generalize mid + 1 = i9 at hbx
  clear g9 gm4 g34 g74 o34 o74 o9 o21
  refine cl_spec (fix_ok am4 gn hN rfl hmay (by simp) hbx.2.1.1 hbx.1.1 hbx.2.2.1 hbx.2.1.2 hbx.1.2 hbx.2.2.2) (fun _ _ _ hc => absurd hc (by decide +kernel)) ?_
  rintro u k5 ⟨rfl, ow5, am5, may5, kk45⟩
  have hbx5 := hbx.ks kk45 (by decide)
  have kk6 : Ks durT (fun _ => 0) h ow5 k5 := kk5.trans (kk45.weaken fun t e => .inr e)
  have hm5 : May (.new N) (((Sm.new N).vol (Sm.new N).now).map fun x => [x]) := May.fix rfl rfl
  have hl5 : ∀ l ∈ (((Sm.new N).vol (Sm.new N).now).map fun x => [x]), l.length ≤ 0 + 1 := fun l hl => by obtain ⟨x, _, rfl⟩ := List.mem_map.1 hl; simp
  simp only [go_sem, simprocAttr, go_regionH, rg_false, rg_true, List.contains_cons, List.contains_nil, beq_self_eq_true, Bool.or_false, Bool.false_or, Bool.true_or, Nat.reduceBEq, eq_self]
  refine go_cutb (fun ρ k => ∃ (m : Sm) (ow : Nat → Nat) (ms : List (List Nat)), m.good xs.length ∧ m.n = N ∧ ShAt ow k id m ∧ May m ms ∧ MayAt ow k mid ms ∧ (∀ l ∈ ms, l.length ≤ xs.length + 1) ∧ Bx ow k id mid i3 i7 i9 N ∧ Ks durT (fun _ => 0) h ow k ∧
    ρ 2 = .slice ak ks.length ck ∧ ρ 3 = .pointer (some ⟨i3, 0, none⟩) ∧ ρ 7 = .pointer (some ⟨i7, 0, none⟩) ∧ ρ 9 = .pointer (some ⟨i9, 0, none⟩)) ?_ ?_
  · refine go_loop (fun z ρ k => ∃ (i : Nat) (m : Sm) (ow : Nat → Nat) (ms : List (List Nat)), i ≤ xs.length ∧ z = xs.length - i ∧ m.good i ∧ m.n = N ∧ ShAt ow k id m ∧ May m ms ∧ MayAt ow k mid ms ∧ (∀ l ∈ ms, l.length ≤ i + 1) ∧ Bx ow k id mid i3 i7 i9 N ∧ Ks durT (fun _ => 0) h ow k ∧
      ρ 2 = .slice ak ks.length ck ∧ ρ 3 = .pointer (some ⟨i3, 0, none⟩) ∧ ρ 7 = .pointer (some ⟨i7, 0, none⟩) ∧ ρ 9 = .pointer (some ⟨i9, 0, none⟩) ∧ ρ 10 = .func (.func 19) #[] #[.pointer (some ⟨i7, 0, none⟩), .pointer (some ⟨i3, 0, none⟩), .pointer (some ⟨i9, 0, none⟩)] ∧
      ρ 48 = .slice ax xs.length cx ∧ ρ 49 = .int .i64 xs.length ∧ ρ 50 = .int .i64 i) xs.length
      ⟨0, _, _, _, by omega, by omega, gn, rfl, am5, hm5, may5, hl5, hbx5, kk6, by simp only [go_sem, simprocAttr, go_regionH, rg_false, rg_true, List.contains_cons, List.contains_nil, beq_self_eq_true, Bool.or_false, Bool.false_or, Bool.true_or, Nat.reduceBEq, eq_self]⟩ ?_
    clear hl5 hm5 may5 am5 hbx5 kk6 kk5 kk45 hbx hmay am4
    rintro z ρ k ⟨i, m, ow, ms, hi, rfl, gm, hmn, am, hmy, hma, hll, hbx, kk, r2, r3, r7, r9, r10, r48, r49, r50⟩
    simp only [go_sem, simprocAttr, go_regionH, rg_false, rg_true, List.contains_cons, List.contains_nil, beq_self_eq_true, Bool.or_false, Bool.false_or, Bool.true_or, Nat.reduceBEq, r48, r49, r50]
    refine cnd_decide (fun hy => ?_) (fun hy => ?_)
    · have h1 : i < xs.length := by omega
      have e50 : IntKind.i64.wrap ((i : Int) + 1) = ((i + 1 : Nat) : Int) := by rw [wi64] <;> omega
      have nd0 : ¬ durT 0 := by unfold durT shT; omega
      have hxk := hx.mono (S' := (· < h.next)) (h' := k) fun j hj _ => ⟨hj, (kk.2 j hj).2 nd0⟩
      obtain ⟨jb, off, sp, cc, md, x, xv, xw, hA, hSb, hgb, hxi, hxv, hxw, hxin, hle, hdt⟩ := IsSl.atS hxk h1
      subst hA
      obtain ⟨av, cv, rfl⟩ := hxv.shape
      obtain ⟨aw, cw, rfl⟩ := hxw.shape
      have l7k := AHeap.lt_of_alive k (i := i7) (by rw [hbx.2.1.1]; simp)
      have g7p : ∀ o, (k.push o).get i7 = .cells [.pointer (some ⟨id, 0, none⟩)] .rw := fun o => (AHeap.get_push_lt _ _ l7k).trans hbx.2.1.1
      simp only [go_sem, simprocAttr, go_regionH, rg_false, rg_true, List.contains_cons, List.contains_nil, beq_self_eq_true, Bool.or_false, Bool.false_or, Bool.true_or, Nat.reduceBEq, r7, r48, r50, h1, hgb, hle, hdt, sa_len, sa_one, sa_take, sa_put, g7p]
      have qp : k.quiet (k.push (.cells (x.cs (.slice av x.op.data.length cv) (.slice aw x.keep.length cw)) .rw)) := .push _ _
      have gp : (k.push (.cells (x.cs (.slice av x.op.data.length cv) (.slice aw x.keep.length cw)) .rw)).get k.next = .cells (x.cs (.slice av x.op.data.length cv) (.slice aw x.keep.length cw)) .rw := by simp
      have lp : k.next < (k.push (.cells (x.cs (.slice av x.op.data.length cv) (.slice aw x.keep.length cw)) .rw)).next := by simp
      generalize k.push (.cells (x.cs (.slice av x.op.data.length cv) (.slice aw x.keep.length cw)) .rw) = kp at qp gp lp
      have kq : Ks durT ow k (bump ow k 0) kp := .quiet qp 0
      have amp := am.quiet qp 0
      have hmap := hma.ks (T := fun _ => False) (.quiet qp 0) (fun e => e) (fun e => e)
      have hbxp := hbx.ks kq nd0
      have kkp := kk.trans kq
      have op : bump ow k 0 k.next = 0 := bump_ge (Nat.le_refl _)
      generalize bump ow k 0 = owp at kkp amp hmap hbxp op
      generalize k.next = i12 at gp lp op
      have hfk : ∀ j, j < h.next → k.get j = h.get j := fun j hj => (kk.2 j hj).2 nd0
      clear hma hbx kk am kq
      refine cl_spec (does_ok amp gm (by omega) hxin (hxv.quiet qp) (hxw.quiet qp) (fun j hj => by rw [(kkp.2 j hj).1]; show (0 : Nat) ≠ 1 ∧ (0 : Nat) ≠ 6 ∧ (0 : Nat) ≠ 7; decide)) (fun _ _ _ hc => absurd hc (by decide +kernel)) ?_
      rintro u k6 ⟨rfl, ow6, a6, k56⟩
      have ns0 : ¬ shT 0 := by unfold shT; omega
      have hma6 := hmap.ks k56 ns0 (by unfold shT; omega)
      have hbx6 := hbxp.ks k56 ns0
      have g12 := ((k56.2 _ lp).2 (by rw [op]; exact ns0)).trans gp
      have o12 := (k56.2 _ lp).1.trans op
      have kk6 := kkp.trans (k56.weaken fun t e => .inl e)
      have gm6 := gm.act (a := x) (by omega) hxin.2.1
      have hmn6 := (act_n m x).trans hmn
      have hgr := act_grow m x
      have hdo := act_do (m := m) (a := x)
      have hsu := act_sure (m := m) (a := x)
      have hke := act_keep (m := m) (a := x)
      obtain ⟨m6, hm6⟩ : ∃ m6, (m.act x).2 = m6 := ⟨_, rfl⟩
      obtain ⟨e6, he6⟩ : ∃ e6, (m.act x).1 = e6 := ⟨_, rfl⟩
      obtain ⟨r, hr⟩ : ∃ r, x.kd % 8 = r := ⟨_, rfl⟩
      have et : ((x.kd : Nat) : Int).tmod 8 = (r : Int) := by rw [← hr]; rfl
      rw [hm6] at gm6 hmn6 hgr hdo hsu hke a6
      rw [he6, hr] at hdo hsu hke
      rw [he6]
      clear hmap hbxp amp kkp k56 gp lp
      have fin : ∀ (ρ' : Env) (k' : AHeap) (ow' : Nat → Nat) (ms' : List (List Nat)), ShAt ow' k' id m6 → May m6 ms' → MayAt ow' k' mid ms' → (∀ l ∈ ms', l.length ≤ i + 1 + 1) → Bx ow' k' id mid i3 i7 i9 N → Ks durT (fun _ => 0) h ow' k' →
          (ρ' 2 = .slice ak ks.length ck ∧ ρ' 3 = .pointer (some ⟨i3, 0, none⟩) ∧ ρ' 7 = .pointer (some ⟨i7, 0, none⟩) ∧ ρ' 9 = .pointer (some ⟨i9, 0, none⟩) ∧ ρ' 10 = .func (.func 19) #[] #[.pointer (some ⟨i7, 0, none⟩), .pointer (some ⟨i3, 0, none⟩), .pointer (some ⟨i9, 0, none⟩)] ∧
            ρ' 48 = .slice (some ⟨jb, off, sp⟩) xs.length cx ∧ ρ' 49 = .int .i64 xs.length ∧ ρ' 50 = .int .i64 (i + 1 : Nat)) →
          ∃ z', z' < xs.length - i ∧ ∃ (i : Nat) (m : Sm) (ow : Nat → Nat) (ms : List (List Nat)), i ≤ xs.length ∧ z' = xs.length - i ∧ m.good i ∧ m.n = N ∧ ShAt ow k' id m ∧ May m ms ∧ MayAt ow k' mid ms ∧ (∀ l ∈ ms, l.length ≤ i + 1) ∧ Bx ow k' id mid i3 i7 i9 N ∧ Ks durT (fun _ => 0) h ow k' ∧
            ρ' 2 = .slice ak ks.length ck ∧ ρ' 3 = .pointer (some ⟨i3, 0, none⟩) ∧ ρ' 7 = .pointer (some ⟨i7, 0, none⟩) ∧ ρ' 9 = .pointer (some ⟨i9, 0, none⟩) ∧ ρ' 10 = .func (.func 19) #[] #[.pointer (some ⟨i7, 0, none⟩), .pointer (some ⟨i3, 0, none⟩), .pointer (some ⟨i9, 0, none⟩)] ∧
            ρ' 48 = .slice (some ⟨jb, off, sp⟩) xs.length cx ∧ ρ' 49 = .int .i64 xs.length ∧ ρ' 50 = .int .i64 i :=
        fun ρ' k' ow' ms' x1 x2 x3 x4 x5 x6 x7 => ⟨xs.length - (i + 1), by omega, i + 1, m6, ow', ms', by omega, rfl, gm6, hmn6, x1, x2, x3, x4, x5, x6, x7⟩
      by_cases c1 : r = 0 ∧ e6 = 0
      · obtain ⟨f, hol, em6⟩ := hdo c1.1 c1.2
        have c1r : (r : Int) = 0 := by omega
        have ho1 : x.op.rng.1 = x.op.off := by
          unfold Bop.rng
          rcases f.2 with ⟨e, _⟩ | ⟨e, _⟩ <;> rw [e] <;> rfl
        obtain ⟨O, hO⟩ : ∃ O : Nat, x.op.rng.1 = O := ⟨x.op.rng.1.toNat, by have := f.1; omega⟩
        obtain ⟨K, hK⟩ : ∃ K : Nat, x.op.rng.2 = K := ⟨x.op.rng.2.toNat, by have := f.1; omega⟩
        have hOK : 1 ≤ K ∧ O + K ≤ N := by have := f.1; rw [hO, hK, hmn] at this; omega
        have hmy6 := hmy.add gm (by omega) f em6
        rw [← ho1, hO, hK, Int.toNat_natCast, Int.toNat_natCast] at hmy6
        simp only [go_sem, simprocAttr, go_regionH, rg_false, rg_true, List.contains_cons, List.contains_nil, beq_self_eq_true, Bool.or_false, Bool.false_or, Bool.true_or, Nat.reduceBEq, g12, sa_0, et, c1r, c1.2, decide_true, sa_op, sa_len]
        refine cl_spec (RRange_ok (S := fun j => j < h.next) (h := k6) (o := x.op) (v := .slice av x.op.data.length cv) ?_) (fun _ _ _ hc => absurd hc (by decide +kernel)) ?_
        · exact hxv.mono fun j hj hl => ⟨hj, ((kk6.2 j hj).2 nd0).trans (hfk j hj).symm⟩
        rw [hO, hK]
        rintro u k7 ⟨rfl, q7'⟩
        have a7 := a6.quiet q7' 0
        have k67 : Ks durT ow6 k6 (bump ow6 k6 0) k7 := .quiet q7' 0
        have hma7 := hma6.ks (T := fun _ => False) (.quiet q7' 0) (fun e => e) (fun e => e)
        have hbx7 := hbx6.ks k67 nd0
        have kk7 := kk6.trans k67
        generalize bump ow6 k6 0 = ow7 at a7 hma7 hbx7 kk7
        clear k67
        simp only [go_sem, simprocAttr, go_regionH, rg_false, rg_true, List.contains_cons, List.contains_nil, beq_self_eq_true, Bool.or_false, Bool.false_or, Bool.true_or, Nat.reduceBEq, r7, hbx7.2.1.1]
        refine cl_spec (sRead_ok a7 gm6 (off := O) (n := K) (by unfold inJ; omega) (by unfold inJ; omega)) (fun _ _ _ hc => absurd hc (by decide +kernel)) ?_
        have hvl : (m6.vol m6.now).length = N := by rw [m6.vol_len, hmn6]; rfl
        have hrd : readL (m6.vol m6.now) O K = (((m6.vol m6.now).drop O).take K, 0) := by
          unfold readL
          rw [if_neg (by omega), if_neg (by omega)]; rfl
        rw [hrd]
        rintro u k8 ⟨w8, rfl, wr8, q8⟩
        have a8 := a7.quiet q8 0
        have k78 : Ks durT ow7 k7 (bump ow7 k7 0) k8 := .quiet q8 0
        have hma8 := hma7.ks (T := fun _ => False) (.quiet q8 0) (fun e => e) (fun e => e)
        have hbx8 := hbx7.ks k78 nd0
        have kk8 := kk7.trans k78
        have wv8 : Words (fun j => bump ow7 k7 0 j = 0) k8 (((m6.vol m6.now).drop O).take K) w8 := wr8.weaken fun j hj => bump_ge hj
        generalize bump ow7 k7 0 = ow8 at a8 hma8 hbx8 kk8 wv8
        clear k78 wr8
        obtain ⟨a8', c8, rfl⟩ := wv8.shape
        have hl8 : (((m6.vol m6.now).drop O).take K).length = K := by rw [List.length_take, List.length_drop]; omega
        rw [hl8] at wv8 ⊢
        simp only [go_sem, simprocAttr, go_regionH, rg_false, rg_true, List.contains_cons, List.contains_nil, beq_self_eq_true, Bool.or_false, Bool.false_or, Bool.true_or, Nat.reduceBEq, eq_self]
        refine go_cutb (fun ρ' k' => ∃ ow', ShAt ow' k' id m6 ∧ MayAt ow' k' mid (addM ms O K fun j => (m6.vol m6.now).getD j 0) ∧ Bx ow' k' id mid i3 i7 i9 N ∧ Ks durT (fun _ => 0) h ow' k' ∧
          ρ' 2 = .slice ak ks.length ck ∧ ρ' 3 = .pointer (some ⟨i3, 0, none⟩) ∧ ρ' 7 = .pointer (some ⟨i7, 0, none⟩) ∧ ρ' 9 = .pointer (some ⟨i9, 0, none⟩) ∧ ρ' 10 = .func (.func 19) #[] #[.pointer (some ⟨i7, 0, none⟩), .pointer (some ⟨i3, 0, none⟩), .pointer (some ⟨i9, 0, none⟩)] ∧
          ρ' 48 = .slice (some ⟨jb, off, sp⟩) xs.length cx ∧ ρ' 49 = .int .i64 xs.length ∧ ρ' 50 = .int .i64 i) ?_ ?_
        · refine go_loop (fun z ρ' k' => ∃ (j : Nat) (ow' : Nat → Nat), j ≤ K ∧ z = K - j ∧ ShAt ow' k' id m6 ∧ MayAt ow' k' mid (addM ms O j fun j => (m6.vol m6.now).getD j 0) ∧ Bx ow' k' id mid i3 i7 i9 N ∧ Ks durT (fun _ => 0) h ow' k' ∧
            Words (fun j => ow' j = 0) k' (((m6.vol m6.now).drop O).take K) (.slice a8' K c8) ∧
            ρ' 2 = .slice ak ks.length ck ∧ ρ' 3 = .pointer (some ⟨i3, 0, none⟩) ∧ ρ' 7 = .pointer (some ⟨i7, 0, none⟩) ∧ ρ' 9 = .pointer (some ⟨i9, 0, none⟩) ∧ ρ' 10 = .func (.func 19) #[] #[.pointer (some ⟨i7, 0, none⟩), .pointer (some ⟨i3, 0, none⟩), .pointer (some ⟨i9, 0, none⟩)] ∧
            ρ' 48 = .slice (some ⟨jb, off, sp⟩) xs.length cx ∧ ρ' 49 = .int .i64 xs.length ∧ ρ' 50 = .int .i64 i ∧ ρ' 14 = .int .i64 O ∧ ρ' 16 = .slice a8' K c8 ∧ ρ' 79 = .int .i64 K ∧ ρ' 80 = .int .i64 j) K
            ⟨0, ow8, by omega, by omega, a8, by rw [addM_zero]; exact hma8, hbx8, kk8, wv8, by simp only [go_sem, simprocAttr, go_regionH, rg_false, rg_true, List.contains_cons, List.contains_nil, beq_self_eq_true, Bool.or_false, Bool.false_or, Bool.true_or, Nat.reduceBEq, r2, r3, r7, r9, r10, r48, r49, r50]⟩ ?_
          clear a8 hma8 hbx8 kk8 wv8 a7 hma7 hbx7 kk7 a6 hma6 hbx6 kk6
          rintro z ρ' k' ⟨j, ow', hj, rfl, a9, hma9, hbx9, kk9, wv9, s2, s3, s7, s9, s10, s48, s49, s50, s14, s16, s79, s80⟩
          simp only [go_sem, simprocAttr, go_regionH, rg_false, rg_true, List.contains_cons, List.contains_nil, beq_self_eq_true, Bool.or_false, Bool.false_or, Bool.true_or, Nat.reduceBEq, s9, s14, s16, s79, s80]
          refine cnd_decide (fun hy => ?_) (fun hy => ?_)
          · have h2 : j < K := by omega
            have eOj : IntKind.i64.wrap ((O : Int) + j) = ((O + j : Nat) : Int) := by rw [wi64] <;> omega
            have e80 : IntKind.i64.wrap ((j : Int) + 1) = ((j + 1 : Nat) : Int) := by rw [wi64] <;> omega
            have hOj : ((O + j : Nat) : Int) < (N : Int) := by omega
            have hml : (addM ms O j fun j => (m6.vol m6.now).getD j 0).length = N := by rw [addM_len, hmy.len, hmn]; rfl
            obtain ⟨l, hl⟩ : ∃ l, (addM ms O j fun j => (m6.vol m6.now).getD j 0)[O + j]? = some l := ⟨_, List.getElem?_eq_getElem (by omega)⟩
            have hma9c := hma9
            obtain ⟨_, vs, hgm, _⟩ := hma9c
            obtain ⟨v, hv, hvw⟩ := hma9.elem hgm hl
            have hvs := hma9.vlen hgm
            have h3 : O + j + 1 ≤ vs.length := by omega
            obtain ⟨al, cl_, rfl⟩ := hvw.shape
            simp only [go_sem, simprocAttr, go_regionH, rg_false, rg_true, List.contains_cons, List.contains_nil, beq_self_eq_true, Bool.or_false, Bool.false_or, Bool.true_or, Nat.reduceBEq, s9, s14, s16, s79, s80, hbx9.2.2.1]
            refine ⟨apart_of [9] [] (by decide +kernel) (fun t _ s hs => by cases hs), ?_⟩
            have hlen : l.length ≤ i + 2 := by
              rw [addM_get, Option.map_eq_some_iff] at hl
              obtain ⟨l', hl', rfl⟩ := hl
              have := hll l' (List.mem_of_getElem? hl')
              split
              · simp; omega
              · omega
            obtain ⟨v1, k1, e1, l1, f1, _⟩ := (Lst.nil rW k'.next (fun _ => False) k').app (ys := l) 1 rfl (bytes := 8) (n := l.length) (nat_all2 (fun n hn => hvw.vals rfl n hn)) rfl (by simp; omega) (by simp; omega) (Nat.le_refl _)
            rw [nat_flat] at e1
            rw [List.nil_append] at l1
            have q1 : k'.quiet k1 := f1.quiet (fun j _ e => by cases e)
            obtain ⟨a1, c1_, rfl, _⟩ := l1.len
            obtain ⟨jb2, off2, sp2, cc2, md2, y, hA2, _, hg2, hy2, hyb, hc2⟩ := (wv9.mono (S' := fun _ => True) (fun j hj hl => ⟨trivial, q1.2 j hl⟩) : Words (fun _ => True) k1 _ _).atN h2
            subst hA2
            have hyv : y = (m6.vol m6.now).getD (O + j) 0 := by
              rw [List.getElem?_take, if_pos h2, List.getElem?_drop] at hy2
              rw [List.getD, hy2]; rfl
            have qb : k1.quiet (k1.push (.cells [.int .u64 (y : Int)] .rw)) := .push _ _
            obtain ⟨v3, k3, e3, l3, f3, _⟩ := (l1.quiet qb).app1 (y := y) (cs := [.int .u64 (y : Int)]) (bytes := 8) 1 rfl ⟨rfl, hyb⟩ (by omega) (by omega) (by have := (q1.trans qb).1; omega)
            have q13 : k'.quiet k3 := Fw.behind (q1.trans qb) f3 (fun j e => (l1.blk_ge e).1)
            have hgm3 := (q13.2 _ hma9.lt).trans hgm
            obtain ⟨a3_, c3_, rfl, _⟩ := l3.len
            simp only [go_sem, simprocAttr, go_regionH, rg_false, rg_true, List.contains_cons, List.contains_nil, beq_self_eq_true, Bool.or_false, Bool.false_or, Bool.true_or, Nat.reduceBEq, eOj, hOj, hgm, hv, h3, hvw.acellsN, e1, s16, hg2, hc2, e3, hgm3, h2, s80, e80]
            have hbump : ∀ p, k'.next ≤ p → bump ow' k' 0 p = 0 := fun p hp => bump_ge hp
            have kq3 : Ks durT ow' k' (bump ow' k' 0) k3 := .quiet q13 0
            have hma3 := (hma9.ks (T := fun _ => False) (.quiet q13 0) (fun e => e) (fun e => e)).set (i := O + j) (l := l ++ [y]) (w := _) (l3.isSl (fun _ e _ => e.elim) (fun p hp => hbump p hp)) hgm3
            have ho21 : bump ow' k' 0 mid = 21 := (bump_lt hma9.lt).trans hma9.1
            have ks3 : Ks (· = 21) (bump ow' k' 0) k3 (bump ow' k' 0) (k3.set mid (.cells (vs.set (O + j) (.slice a3_ (l ++ [y]).length c3_)) .rw)) := .set (T := (· = 21)) ho21 _
            have wv3 : Words (fun j => bump ow' k' 0 j = 0) (k3.set mid (.cells (vs.set (O + j) (.slice a3_ (l ++ [y]).length c3_)) .rw)) (((m6.vol m6.now).drop O).take K) (.slice (some ⟨jb2, off2, sp2⟩) K c8) := wv9.mono fun p hp hl => ⟨(bump_lt hl).trans hp, (AHeap.get_set_ne _ _ (by rintro rfl; rw [hma9.1] at hp; cases hp)).trans (q13.2 p hl)⟩
            have ead : (addM ms O j fun j => (m6.vol m6.now).getD j 0).set (O + j) (l ++ [y]) = addM ms O (j + 1) fun j => (m6.vol m6.now).getD j 0 := by
              rw [hyv]; exact addM_succ (f := fun j => (m6.vol m6.now).getD j 0) hl
            rw [ead] at hma3
            have sh3 : ∀ t, t = 21 → t ≠ 1 ∧ t ≠ 2 ∧ t ≠ 7 ∧ t ≠ 8 ∧ t ≠ 9 ∧ t ≠ 10 ∧ t ≠ 11 := by omega
            refine Hold.mk ⟨K - (j + 1), by omega, j + 1, _, by omega, rfl, (a9.quiet q13 0).ks ks3 sh3 (by decide), hma3, (hbx9.ks kq3 nd0).ks ks3 (by decide), (kk9.trans kq3).trans (ks3.weaken fun t e => .inr e), wv3, by simp only [go_sem, simprocAttr, go_regionH, rg_false, rg_true, List.contains_cons, List.contains_nil, beq_self_eq_true, Bool.or_false, Bool.false_or, Bool.true_or, Nat.reduceBEq, s2, s3, s7, s9, s10, s48, s49, s50, s14, s16, s79]⟩
          · have hj' : j = K := by omega
            subst hj'
            simp only [go_sem, simprocAttr, go_regionH, rg_false, rg_true, List.contains_cons, List.contains_nil, beq_self_eq_true, Bool.or_false, Bool.false_or, Bool.true_or, Nat.reduceBEq, eq_self]
            exact Hold.mk ⟨ow', a9, hma9, hbx9, kk9, by simp only [go_sem, simprocAttr, go_regionH, rg_false, rg_true, List.contains_cons, List.contains_nil, beq_self_eq_true, Bool.or_false, Bool.false_or, Bool.true_or, Nat.reduceBEq, s2, s3, s7, s9, s10, s48, s49, s50]⟩
        · rintro ρ' k' ⟨ow', a9, hma9, hbx9, kk9, s2, s3, s7, s9, s10, s48, s49, s50⟩
          simp only [go_sem, simprocAttr, go_regionH, rg_false, rg_true, List.contains_cons, List.contains_nil, beq_self_eq_true, Bool.or_false, Bool.false_or, Bool.true_or, Nat.reduceBEq, s50, e50]
          refine Hold.mk (fin _ _ ow' _ a9 hmy6 hma9 ?_ hbx9 kk9 ?_)
          · intro l hl
            obtain ⟨p, hp⟩ := List.getElem?_of_mem hl
            rw [addM_get, Option.map_eq_some_iff] at hp
            obtain ⟨l', hl', rfl⟩ := hp
            have := hll l' (List.mem_of_getElem? hl')
            split
            · simp; omega
            · omega
          · simp only [go_sem, simprocAttr, go_regionH, rg_false, rg_true, List.contains_cons, List.contains_nil, beq_self_eq_true, Bool.or_false, Bool.false_or, Bool.true_or, Nat.reduceBEq, s2, s3, s7, s9, s10, s48, s49]
      · by_cases c2 : r = 6 ∨ (e6 = 0 ∧ (r = 1 ∨ r = 3 ∨ r = 5))
        · obtain ⟨hs1, hs2⟩ := hsu c2
          have hmy6 := May.fix hs1 hs2
          have hml : ms.length = N := by rw [hmy.len, hmn]; rfl
          have fin2 : ∀ (ρ' : Env) (k' : AHeap) (ow' : Nat → Nat), ShAt ow' k' id m6 → MayAt ow' k' mid ((m6.vol m6.now).map fun x => [x]) → Ks (· = 21) ow6 k6 ow' k' → _ :=
            fun ρ' k' ow' x1 x2 x3 => fin ρ' k' ow' _ x1 hmy6 x2 (fun l hl => by obtain ⟨y, _, rfl⟩ := List.mem_map.1 hl; simp) (hbx6.ks x3 (by decide)) (kk6.trans (x3.weaken fun t e => .inr e))
          rcases c2 with c | ⟨ce, c | c | c⟩
          · have cr : (r : Int) = 6 := by omega
            simp only [go_sem, simprocAttr, go_regionH, rg_false, rg_true, List.contains_cons, List.contains_nil, beq_self_eq_true, Bool.or_false, Bool.false_or, Bool.true_or, Nat.reduceBEq, g12, sa_0, et, cr, sa_len, r10, decide_true, decide_false]
            refine cl_spec (fix_ok a6 gm6 hN hmn6 hma6 hml hbx6.2.1.1 hbx6.1.1 hbx6.2.2.1 hbx6.2.1.2 hbx6.1.2 hbx6.2.2.2) (fun _ _ _ hc => absurd hc (by decide +kernel)) ?_
            rintro u k7 ⟨rfl, ow7, a7, may7, k67⟩
            simp only [go_sem, simprocAttr, go_regionH, rg_false, rg_true, List.contains_cons, List.contains_nil, beq_self_eq_true, Bool.or_false, Bool.false_or, Bool.true_or, Nat.reduceBEq, r50, e50]
            exact Hold.mk (fin2 _ _ _ a7 may7 k67 (by simp only [go_sem, simprocAttr, go_regionH, rg_false, rg_true, List.contains_cons, List.contains_nil, beq_self_eq_true, Bool.or_false, Bool.false_or, Bool.true_or, Nat.reduceBEq, r2, r3, r7, r9, r10, r48, r49]))
          · have cr : (r : Int) = 1 := by omega
            simp only [go_sem, simprocAttr, go_regionH, rg_false, rg_true, List.contains_cons, List.contains_nil, beq_self_eq_true, Bool.or_false, Bool.false_or, Bool.true_or, Nat.reduceBEq, g12, sa_0, et, cr, ce, sa_len, r10, decide_true, decide_false]
            refine cl_spec (fix_ok a6 gm6 hN hmn6 hma6 hml hbx6.2.1.1 hbx6.1.1 hbx6.2.2.1 hbx6.2.1.2 hbx6.1.2 hbx6.2.2.2) (fun _ _ _ hc => absurd hc (by decide +kernel)) ?_
            rintro u k7 ⟨rfl, ow7, a7, may7, k67⟩
            simp only [go_sem, simprocAttr, go_regionH, rg_false, rg_true, List.contains_cons, List.contains_nil, beq_self_eq_true, Bool.or_false, Bool.false_or, Bool.true_or, Nat.reduceBEq, r50, e50]
            exact Hold.mk (fin2 _ _ _ a7 may7 k67 (by simp only [go_sem, simprocAttr, go_regionH, rg_false, rg_true, List.contains_cons, List.contains_nil, beq_self_eq_true, Bool.or_false, Bool.false_or, Bool.true_or, Nat.reduceBEq, r2, r3, r7, r9, r10, r48, r49]))
          · have cr : (r : Int) = 3 := by omega
            simp only [go_sem, simprocAttr, go_regionH, rg_false, rg_true, List.contains_cons, List.contains_nil, beq_self_eq_true, Bool.or_false, Bool.false_or, Bool.true_or, Nat.reduceBEq, g12, sa_0, et, cr, ce, sa_len, r10, decide_true, decide_false]
            refine cl_spec (fix_ok a6 gm6 hN hmn6 hma6 hml hbx6.2.1.1 hbx6.1.1 hbx6.2.2.1 hbx6.2.1.2 hbx6.1.2 hbx6.2.2.2) (fun _ _ _ hc => absurd hc (by decide +kernel)) ?_
            rintro u k7 ⟨rfl, ow7, a7, may7, k67⟩
            simp only [go_sem, simprocAttr, go_regionH, rg_false, rg_true, List.contains_cons, List.contains_nil, beq_self_eq_true, Bool.or_false, Bool.false_or, Bool.true_or, Nat.reduceBEq, r50, e50]
            exact Hold.mk (fin2 _ _ _ a7 may7 k67 (by simp only [go_sem, simprocAttr, go_regionH, rg_false, rg_true, List.contains_cons, List.contains_nil, beq_self_eq_true, Bool.or_false, Bool.false_or, Bool.true_or, Nat.reduceBEq, r2, r3, r7, r9, r10, r48, r49]))
          · have cr : (r : Int) = 5 := by omega
            simp only [go_sem, simprocAttr, go_regionH, rg_false, rg_true, List.contains_cons, List.contains_nil, beq_self_eq_true, Bool.or_false, Bool.false_or, Bool.true_or, Nat.reduceBEq, g12, sa_0, et, cr, ce, sa_len, r10, decide_true, decide_false]
            refine cl_spec (fix_ok a6 gm6 hN hmn6 hma6 hml hbx6.2.1.1 hbx6.1.1 hbx6.2.2.1 hbx6.2.1.2 hbx6.1.2 hbx6.2.2.2) (fun _ _ _ hc => absurd hc (by decide +kernel)) ?_
            rintro u k7 ⟨rfl, ow7, a7, may7, k67⟩
            simp only [go_sem, simprocAttr, go_regionH, rg_false, rg_true, List.contains_cons, List.contains_nil, beq_self_eq_true, Bool.or_false, Bool.false_or, Bool.true_or, Nat.reduceBEq, r50, e50]
            exact Hold.mk (fin2 _ _ _ a7 may7 k67 (by simp only [go_sem, simprocAttr, go_regionH, rg_false, rg_true, List.contains_cons, List.contains_nil, beq_self_eq_true, Bool.or_false, Bool.false_or, Bool.true_or, Nat.reduceBEq, r2, r3, r7, r9, r10, r48, r49]))
        · obtain ⟨hk1, hk2⟩ := hke c1 c2
          have hmy6 := hmy.keep gm hgr hk1 hk2
          have c6 : ¬ (r : Int) = 6 := by omega
          by_cases ce : e6 = 0
          · have x0 : ¬ (r : Int) = 0 := by omega
            have x1 : ¬ (r : Int) = 1 := by omega
            have x3 : ¬ (r : Int) = 3 := by omega
            have x5 : ¬ (r : Int) = 5 := by omega
            simp only [go_sem, simprocAttr, go_regionH, rg_false, rg_true, List.contains_cons, List.contains_nil, beq_self_eq_true, Bool.or_false, Bool.false_or, Bool.true_or, Nat.reduceBEq, g12, sa_0, et, ce, c6, x0, x1, x3, x5, decide_true, decide_false, r50, e50]
            exact Hold.mk (fin _ _ ow6 _ a6 hmy6 hma6 (fun l hl => by have := hll l hl; omega) hbx6 kk6 (by simp only [go_sem, simprocAttr, go_regionH, rg_false, rg_true, List.contains_cons, List.contains_nil, beq_self_eq_true, Bool.or_false, Bool.false_or, Bool.true_or, Nat.reduceBEq, r2, r3, r7, r9, r10, r48, r49]))
          · by_cases x0 : (r : Int) = 0
            · simp only [go_sem, simprocAttr, go_regionH, rg_false, rg_true, List.contains_cons, List.contains_nil, beq_self_eq_true, Bool.or_false, Bool.false_or, Bool.true_or, Nat.reduceBEq, g12, sa_0, et, ce, x0, decide_true, decide_false, r50, e50]
              exact Hold.mk (fin _ _ ow6 _ a6 hmy6 hma6 (fun l hl => by have := hll l hl; omega) hbx6 kk6 (by simp only [go_sem, simprocAttr, go_regionH, rg_false, rg_true, List.contains_cons, List.contains_nil, beq_self_eq_true, Bool.or_false, Bool.false_or, Bool.true_or, Nat.reduceBEq, r2, r3, r7, r9, r10, r48, r49]))
            · simp only [go_sem, simprocAttr, go_regionH, rg_false, rg_true, List.contains_cons, List.contains_nil, beq_self_eq_true, Bool.or_false, Bool.false_or, Bool.true_or, Nat.reduceBEq, g12, sa_0, et, ce, c6, x0, decide_false, r50, e50]
              exact Hold.mk (fin _ _ ow6 _ a6 hmy6 hma6 (fun l hl => by have := hll l hl; omega) hbx6 kk6 (by simp only [go_sem, simprocAttr, go_regionH, rg_false, rg_true, List.contains_cons, List.contains_nil, beq_self_eq_true, Bool.or_false, Bool.false_or, Bool.true_or, Nat.reduceBEq, r2, r3, r7, r9, r10, r48, r49]))
    · simp only [go_sem, simprocAttr, go_regionH, rg_false, rg_true, List.contains_cons, List.contains_nil, beq_self_eq_true, Bool.or_false, Bool.false_or, Bool.true_or, Nat.reduceBEq, eq_self]
      exact Hold.mk ⟨m, ow, ms, by rw [show xs.length = i by omega]; exact gm, hmn, am, hmy, hma, by rw [show xs.length = i by omega]; exact hll, hbx, kk, by simp only [go_sem, simprocAttr, go_regionH, rg_false, rg_true, List.contains_cons, List.contains_nil, beq_self_eq_true, Bool.or_false, Bool.false_or, Bool.true_or, Nat.reduceBEq, r2, r3, r7, r9]⟩
  · rintro ρ k ⟨m, ow, ms, gm, hmn, am, hmy, hma, hll, hbx, kk, r2, r3, r7, r9⟩
    have nd0 : ¬ durT 0 := by unfold durT shT; omega
    simp only [go_sem, simprocAttr, go_regionH, rg_false, rg_true, List.contains_cons, List.contains_nil, beq_self_eq_true, Bool.or_false, Bool.false_or, Bool.true_or, Nat.reduceBEq, r2, r7, hbx.2.1.1]
    refine cl_spec (sCrash_ok (S := fun j => j < h.next) am gm (by omega) (hk.mono fun j hj hl => ⟨hj, (kk.2 j hj).2 nd0⟩) (fun j hj => by rw [(kk.2 j hj).1]; show (0 : Nat) ≠ 1 ∧ (0 : Nat) ≠ 6 ∧ (0 : Nat) ≠ 7; decide)) (fun _ _ _ hc => absurd hc (by decide +kernel)) ?_
    rintro u k1 ⟨rfl, ow1, a1, k01⟩
    have ns0 : ¬ shT 0 := by unfold shT; omega
    have hma1 := hma.ks k01 ns0 (by unfold shT; omega)
    have hbx1 := hbx.ks k01 ns0
    have kk1 := kk.trans (k01.weaken fun t e => .inl e)
    have g1 := gm.crash (by omega) ks
    have hcm := fun (j : Nat) (l : List Nat) => crash_may gm (by omega) hmy ks (j := j) (l := l)
    have hop : (m.crash ks).opn = [] ∧ (m.crash ks).frozen = false := ⟨rfl, rfl⟩
    have hn1 : (m.crash ks).n = N := (show (m.crash ks).n = m.n from by unfold Sm.crash Sm.flush; exact replay_n _ _ _).trans hmn
    have hml : ms.length = N := by rw [hmy.len, hmn]; rfl
    generalize m.crash ks = m1 at a1 g1 hcm hop hn1
    simp only [go_sem, simprocAttr, go_regionH, rg_false, rg_true, List.contains_cons, List.contains_nil, beq_self_eq_true, Bool.or_false, Bool.false_or, Bool.true_or, Nat.reduceBEq, r3, r7, hbx1.2.1.1, hbx1.1.1]
    refine cl_spec (sRead_ok a1 g1 (off := 0) (n := N) (by unfold inJ; omega) (by unfold inJ; omega)) (fun _ _ _ hc => absurd hc (by decide +kernel)) ?_
    have hrd : readL (m1.vol m1.now) 0 N = (m1.vol m1.now, 0) := by rw [← hn1]; exact readL_all g1 m1.now
    have hvl : (m1.vol m1.now).length = N := by rw [m1.vol_len, hn1]; rfl
    rw [hrd]
    rintro u k2 ⟨w2, rfl, wr2, q2⟩
    have a2 := a1.quiet q2 0
    have k12 : Ks durT ow1 k1 (bump ow1 k1 0) k2 := .quiet q2 0
    have hma2 := hma1.ks (T := fun _ => False) (.quiet q2 0) (fun e => e) (fun e => e)
    have hbx2 := hbx1.ks k12 nd0
    have kk2 := kk1.trans k12
    generalize bump ow1 k1 0 = ow2 at a2 hma2 hbx2 kk2
    obtain ⟨a', c', rfl⟩ := wr2.shape
    rw [hvl] at wr2 ⊢
    simp only [go_sem, simprocAttr, go_regionH, rg_false, rg_true, List.contains_cons, List.contains_nil, beq_self_eq_true, Bool.or_false, Bool.false_or, Bool.true_or, Nat.reduceBEq, r3, hbx2.1.1, hvl]
    refine go_cutb (fun ρ k => k = k2 ∧ ρ 7 = .pointer (some ⟨i7, 0, none⟩)) ?_ ?_
    · refine go_loop (fun z ρ k => ∃ i, i ≤ N ∧ z = N - i ∧ k = k2 ∧ ρ 7 = .pointer (some ⟨i7, 0, none⟩) ∧ ρ 9 = .pointer (some ⟨i9, 0, none⟩) ∧ ρ 149 = .slice a' N c' ∧ ρ 150 = .int .i64 N ∧ ρ 151 = .int .i64 i) N
        ⟨0, by omega, by omega, rfl, by simp only [go_sem, simprocAttr, go_regionH, rg_false, rg_true, List.contains_cons, List.contains_nil, beq_self_eq_true, Bool.or_false, Bool.false_or, Bool.true_or, Nat.reduceBEq, r7, r9]⟩ ?_
      rintro z ρ k ⟨i, hi, rfl, rfl, s7, s9, s149, s150, s151⟩
      simp only [go_sem, simprocAttr, go_regionH, rg_false, rg_true, List.contains_cons, List.contains_nil, beq_self_eq_true, Bool.or_false, Bool.false_or, Bool.true_or, Nat.reduceBEq, s7, s9, s149, s150, s151]
      refine cnd_decide (fun hy => ?_) (fun hy => ?_)
      · have h1 : i < N := by omega
        obtain ⟨jb, off, sp, cc, md, y, hA, _, hg, hyi, hyb, hc⟩ := wr2.atN h1
        subst hA
        obtain ⟨l, hl⟩ : ∃ l, ms[i]? = some l := ⟨_, List.getElem?_eq_getElem (by omega)⟩
        have hma2c := hma2
        obtain ⟨_, vs, hgm, _⟩ := hma2c
        obtain ⟨v, hv, hvw⟩ := hma2.elem hgm hl
        have hvs := hma2.vlen hgm
        have h3 : i + 1 ≤ vs.length := by omega
        obtain ⟨al, cl_, rfl⟩ := hvw.shape
        have hin := hcm i l hl
        have hyv : (m1.vol m1.now).getD i 0 = y := by rw [List.getD, hyi]; rfl
        rw [hyv] at hin
        have e151 : IntKind.i64.wrap ((i : Int) + 1) = ((i + 1 : Nat) : Int) := by rw [wi64] <;> omega
        simp only [go_sem, simprocAttr, go_regionH, rg_false, rg_true, List.contains_cons, List.contains_nil, beq_self_eq_true, Bool.or_false, Bool.false_or, Bool.true_or, Nat.reduceBEq, s7, s9, s149, s150, s151, h1, hg, hc, hbx2.2.2.1, hgm, hv, h3]
        refine go_cutb (fun ρ k' => k' = k ∧ ρ 23 = .bool true ∧ ρ 7 = .pointer (some ⟨i7, 0, none⟩) ∧ ρ 9 = .pointer (some ⟨i9, 0, none⟩) ∧ ρ 149 = .slice (some ⟨jb, off, sp⟩) N c' ∧ ρ 150 = .int .i64 N ∧ ρ 151 = .int .i64 i) ?_ ?_
        · refine go_loop (fun z ρ k' => ∃ j, j ≤ l.length ∧ z = l.length - j ∧ k' = k ∧ ρ 23 = .bool (decide (y ∈ l.take j)) ∧ ρ 22 = .int .u64 y ∧ ρ 7 = .pointer (some ⟨i7, 0, none⟩) ∧ ρ 9 = .pointer (some ⟨i9, 0, none⟩) ∧ ρ 149 = .slice (some ⟨jb, off, sp⟩) N c' ∧ ρ 150 = .int .i64 N ∧ ρ 151 = .int .i64 i ∧
            ρ 159 = .slice al l.length cl_ ∧ ρ 160 = .int .i64 l.length ∧ ρ 161 = .int .i64 j) l.length
            ⟨0, by omega, by omega, rfl, by simp only [go_sem, simprocAttr, go_regionH, rg_false, rg_true, List.contains_cons, List.contains_nil, beq_self_eq_true, Bool.or_false, Bool.false_or, Bool.true_or, Nat.reduceBEq, s7, s9, s149, s150, s151, List.take_zero, List.not_mem_nil, decide_false]⟩ ?_
          rintro z ρ k' ⟨j, hj, rfl, rfl, t23, t22, t7, t9, t149, t150, t151, t159, t160, t161⟩
          simp only [go_sem, simprocAttr, go_regionH, rg_false, rg_true, List.contains_cons, List.contains_nil, beq_self_eq_true, Bool.or_false, Bool.false_or, Bool.true_or, Nat.reduceBEq, t23, t22, t7, t9, t149, t150, t151, t159, t160, t161]
          refine cnd_decide (fun hy => ?_) (fun hy => ?_)
          · have h2 : j < l.length := by omega
            obtain ⟨jb2, off2, sp2, cc2, md2, y2, hA2, _, hg2, hy2, _, hc2⟩ := hvw.atN h2
            subst hA2
            have hlb : l.length ≤ xs.length + 1 := hll l (List.mem_of_getElem? hl)
            have e161 : IntKind.i64.wrap ((j : Int) + 1) = ((j + 1 : Nat) : Int) := by rw [wi64] <;> omega
            have et : decide (y ∈ l.take (j + 1)) = (decide (y ∈ l.take j) || decide (y = y2)) := by
              rw [List.take_add_one, hy2]; simp
            have en : decide ((y : Int) = (y2 : Int)) = decide (y = y2) := decide_eq_decide.2 (by omega)
            by_cases hm : y ∈ l.take j
            · rw [decide_eq_true hm] at et t23
              simp only [go_sem, simprocAttr, go_regionH, rg_false, rg_true, List.contains_cons, List.contains_nil, beq_self_eq_true, Bool.or_false, Bool.false_or, Bool.true_or, Nat.reduceBEq, t23, t22, t159, t160, t161, h2, hg2, hc2, e161]
              refine Hold.mk ⟨l.length - (j + 1), by omega, j + 1, by omega, rfl, rfl, by simp only [go_sem, simprocAttr, go_regionH, rg_false, rg_true, List.contains_cons, List.contains_nil, beq_self_eq_true, Bool.or_false, Bool.false_or, Bool.true_or, Nat.reduceBEq, et, Bool.true_or], ?_⟩
              simp only [go_sem, simprocAttr, go_regionH, rg_false, rg_true, List.contains_cons, List.contains_nil, beq_self_eq_true, Bool.or_false, Bool.false_or, Bool.true_or, Nat.reduceBEq, t22, t7, t9, t149, t150, t151, t159, t160]
            · rw [decide_eq_false hm] at et t23
              simp only [go_sem, simprocAttr, go_regionH, rg_false, rg_true, List.contains_cons, List.contains_nil, beq_self_eq_true, Bool.or_false, Bool.false_or, Bool.true_or, Nat.reduceBEq, t23, t22, t159, t160, t161, h2, hg2, hc2, e161]
              refine Hold.mk ⟨l.length - (j + 1), by omega, j + 1, by omega, rfl, rfl, by simp only [go_sem, simprocAttr, go_regionH, rg_false, rg_true, List.contains_cons, List.contains_nil, beq_self_eq_true, Bool.or_false, Bool.false_or, Bool.true_or, Nat.reduceBEq, et, Bool.false_or, en], ?_⟩
              simp only [go_sem, simprocAttr, go_regionH, rg_false, rg_true, List.contains_cons, List.contains_nil, beq_self_eq_true, Bool.or_false, Bool.false_or, Bool.true_or, Nat.reduceBEq, t22, t7, t9, t149, t150, t151, t159, t160]
          · rw [List.take_of_length_le (by omega), decide_eq_true hin] at t23
            simp only [go_sem, simprocAttr, go_regionH, rg_false, rg_true, List.contains_cons, List.contains_nil, beq_self_eq_true, Bool.or_false, Bool.false_or, Bool.true_or, Nat.reduceBEq, eq_self]
            exact Hold.mk ⟨rfl, by simp only [go_sem, simprocAttr, go_regionH, rg_false, rg_true, List.contains_cons, List.contains_nil, beq_self_eq_true, Bool.or_false, Bool.false_or, Bool.true_or, Nat.reduceBEq, t23, t7, t9, t149, t150, t151]⟩
        · rintro ρ k' ⟨rfl, t23, t7, t9, t149, t150, t151⟩
          simp only [go_sem, simprocAttr, go_regionH, rg_false, rg_true, List.contains_cons, List.contains_nil, beq_self_eq_true, Bool.or_false, Bool.false_or, Bool.true_or, Nat.reduceBEq, t23, t151, e151]
          exact Hold.mk ⟨N - (i + 1), by omega, i + 1, by omega, rfl, rfl, by simp only [go_sem, simprocAttr, go_regionH, rg_false, rg_true, List.contains_cons, List.contains_nil, beq_self_eq_true, Bool.or_false, Bool.false_or, Bool.true_or, Nat.reduceBEq, t7, t9, t149, t150]⟩
      · simp only [go_sem, simprocAttr, go_regionH, rg_false, rg_true, List.contains_cons, List.contains_nil, beq_self_eq_true, Bool.or_false, Bool.false_or, Bool.true_or, Nat.reduceBEq, eq_self]
        exact Hold.mk ⟨rfl, by simp only [go_sem, simprocAttr, go_regionH, rg_false, rg_true, List.contains_cons, List.contains_nil, beq_self_eq_true, Bool.or_false, Bool.false_or, Bool.true_or, Nat.reduceBEq, s7]⟩
    · rintro ρ k ⟨rfl, s7⟩
      simp only [go_sem, simprocAttr, go_regionH, rg_false, rg_true, List.contains_cons, List.contains_nil, beq_self_eq_true, Bool.or_false, Bool.false_or, Bool.true_or, Nat.reduceBEq, s7, hbx2.2.1.1]
      refine cl_spec (sDirty_ok a2) (fun _ _ _ hc => absurd hc (by decide +kernel)) ?_
      rintro u k3 ⟨rfl, rfl⟩
      rw [hop.1]
      simp only [go_sem, simprocAttr, go_regionH, rg_false, rg_true, List.contains_cons, List.contains_nil, beq_self_eq_true, Bool.or_false, Bool.false_or, Bool.true_or, Nat.reduceBEq, s7, hbx2.2.1.1, List.length_nil]
      refine cl_spec (sFrozen_ok a2) (fun _ _ _ hc => absurd hc (by decide +kernel)) ?_
      rintro u k3 ⟨rfl, rfl⟩
      rw [hop.2]
      simp only [go_sem, simprocAttr, go_regionH, rg_false, rg_true, List.contains_cons, List.contains_nil, beq_self_eq_true, Bool.or_false, Bool.false_or, Bool.true_or, Nat.reduceBEq, eq_self]
      exact kk2.quiet0 fun j => nd0
end
end Go.Proofs.Ytjkganmkfhciiaa
