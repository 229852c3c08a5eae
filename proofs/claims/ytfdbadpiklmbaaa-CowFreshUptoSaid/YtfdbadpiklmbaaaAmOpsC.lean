/- AM: the operations that make memory, and those that write. -/
import Derived.Test.YtfdbadpiklmbaaaAmOpsB
import Derived.Laws.MakeOwn
import Derived.Laws.BytesArg
set_option linter.unusedSimpArgs false
set_option linter.unusedVariables false
set_option linter.unnecessarySimpa false
set_option maxRecDepth 100000
namespace Go.AM
section
variable {P : Program} {ι : PMap} {w : World}

theorem HR.heap {h : AHeap} (hr : HR ι h w) {w' : World} (hw : w'.heap = w.heap) : HR ι h w' where
  obj := fun id pl h1 => (hr.obj id pl h1).mono (fun _ _ h => h) fun _ => by rw [hw]
  ex := hr.ex
  lt := fun id pl h1 h2 => by rw [hw]; exact hr.lt id pl h1 h2
  lay := hr.lay.same fun k _ _ => by rw [hw]

theorem Step.heap {h h' : AHeap} {ι' : PMap} {w₁ w₂ : World} (hw : w₁.heap = w.heap) (ho : w₁.os = w.os) (ht : w₁.tape = w.tape) (hu : w₁.output = w.output) (s : Step ι h w₁ ι' h' w₂) : Step ι h w ι' h' w₂ where
  ext := s.ext
  dom := s.dom
  next := s.next
  os := s.os.trans ho
  tape := s.tape.trans ht
  output := s.output.trans hu
  size := by rw [← hw]; exact s.size
  keep := fun k hk hno => by rw [← hw]; exact s.keep k (by rw [hw]; exact hk) hno
  newb := fun id pl h1 h2 h3 => by rw [← hw]; exact s.newb id pl h1 h2 h3
  old := s.old
  dead := s.dead
  hr := s.hr

theorem Put.step {h : AHeap} (hr : HR ι h w) {id : Nat} {pl : Place} (hi : ι id = some pl) (hown : (h.get id).own = true) {o : AObj} {w' : World} (hp : Put w w' pl.b) (ho : ORel ι w' pl o) :
    Step ι h w ι (h.set id o) w' := Step.write hr hi hown hp.size hp.keep hp.os hp.tape hp.output ho

theorem orel_rw {b : Nat} {c : List Value} {cs : Array Value} {e : TypeId} (hb : w.heap[b]? = some (.cells cs e (0, 0))) (hc : VRL ι c cs.toList) (lim sz : Nat) : ORel ι w ⟨b, 0, lim, sz⟩ (.cells c .rw) :=
  ⟨rfl, cs, e, hb, hc⟩

theorem heap_alloc (w : World) (o : Obj) : (w.alloc o).heap[w.heap.size]? = some o := by
  show (w.heap.push o)[w.heap.size]? = _
  simp
theorem heap_alloc_lt (w : World) (o : Obj) {k : Nat} (hk : k < w.heap.size) : (w.alloc o).heap[k]? = w.heap[k]? := by
  show (w.heap.push o)[k]? = _
  rw [Array.getElem?_push, if_neg (by omega)]

/-- A new object of cells of its own. -/
theorem step_alloc {h : AHeap} (hr : HR ι h w) (hf : ι h.next = none) {c : List Value} {cs : Array Value} (e : TypeId) (hc : VRL ι c cs.toList) :
    Step ι h w (ι.upd h.next ⟨w.heap.size, 0, c.length, 0⟩) (h.push (.cells c .rw)) (w.alloc (.cells cs e)) :=
  Step.new hr hf rfl (by simp) (fun k hk => heap_alloc_lt w _ hk) rfl rfl rfl (orel_rw (heap_alloc w _) (hc.mono (PMap.le_upd _ hf)) _ _)

theorem sim_acells {h : AHeap} (hr : HR ι h w) {sz n : Nat} {x x' : Value} {cs : List Value} (ha : acells h sz n x = some cs) (hx : VR ι x x') (hn : ∃ m, alen x = some m ∧ n ≤ m) :
    ∃ cs' : Array Value, (Builtin.firstCells sz n x').run P w = .ok cs' w ∧ VRL ι cs cs'.toList := by
  unfold acells at ha
  split at ha
  · split at ha
    · rename_i h0
      cases ha
      cases hx
      exact ⟨#[], by simp [Builtin.firstCells], .nil _⟩
    · cases ha
  · rename_i a len cap
    split at ha
    · rename_i h0
      cases ha
      have : ∃ b l c, x' = .slice (some b) l c := by cases hx <;> exact ⟨_, _, _, rfl⟩
      obtain ⟨b, l, c, rfl⟩ := this
      exact ⟨#[], by simp [Builtin.firstCells, h0, loadCells, loadCellsFrom], .nil _⟩
    · rename_i h0
      split at ha
      · rename_i c md hg
        split at ha
        · rename_i hle
          cases ha
          have go : ∀ {pl : Place} {b : Addr} {l cp : Nat}, ι a.block = some pl → b = ⟨pl.b, pl.base + a.off, none⟩ →
              ∃ cs' : Array Value, (Builtin.firstCells sz n (.slice (some b) l cp)).run P w = .ok cs' w ∧ VRL ι ((c.drop a.off).take (n * sz)) cs'.toList := by
            intro pl b l cp hι hb
            have ho := hr.obj _ _ hι
            rw [hg] at ho
            obtain ⟨l', h1, h2⟩ := run_cells (P := P) ho a.off (n * sz) hle
            exact ⟨l'.toArray, by subst hb; simp only [Builtin.firstCells]; exact h1, by simpa using h2⟩
          cases hx with
          | sliceX off len cap hι hlc => exact go hι rfl
          | sliceU off len kn cap' sz hι hlc hk hsz hb => exact go hι rfl
          | slice0 a b =>
            obtain ⟨m, hm, hle'⟩ := hn
            simp only [alen, Option.some.injEq] at hm
            have : n = 0 := by omega
            subst this
            simp at h0
        · cases ha
      · cases ha
  · rename_i s
    split at ha
    · rename_i h1
      cases ha
      rw [hx.string_inv]
      refine ⟨((s.extract 0 n).data.map fun b => .int .u8 b.toNat), by simp [Builtin.firstCells], ?_⟩
      have e1 : (s.extract 0 n).data.toList = s.data.toList.take n := by rw [ByteArray.data_extract]; simp
      have : ((s.extract 0 n).data.map fun b => Value.int .u8 b.toNat).toList = (s.data.toList.take n).map fun b => .int .u8 b.toNat := by
        simp [e1]
      rw [this]
      exact .map fun x _ => .int _ _
    · cases ha
  · cases ha

theorem sim_alen {x x' : Value} {n : Nat} (h : alen x = some n) (hx : VR ι x x') : (Builtin.lenOf x').run P w = .ok n w := by
  unfold alen at h
  split at h
  · cases h
    cases hx <;> rfl
  · cases h
    rw [hx.string_inv]; rfl
  · cases h

theorem not_int {xd : TypeDesc} (h : ∀ k, xd ≠ .int k) : (match xd with | .int _ => true | _ => false) = false := by
  cases xd <;> first | rfl | exact absurd rfl (h _)

/-- An append that finds room. -/
theorem run_fit {st xt : TypeId} {ty e : TypeId} {xd : TypeDesc} {i : TypeInfo} {x : Value} {news : Array Value} {n : Nat} (hst : P.underlying st = some (.slice e)) (hxt : P.underlying xt = some xd)
    (hxd : ∀ k, xd ≠ .int k) (hi : P.info? e = some i) (a : Addr) (sLen sCap : Nat) (hl : (Builtin.lenOf x).run P w = .ok n w) (hc : (Builtin.firstCells i.size n x).run P w = .ok news w) (hfit : sLen + n ≤ sCap) :
    (Builtin.append_ #[st, xt] ty #[.slice (some a) sLen sCap, x]).run P w = ((storeCells (a.add (sLen * i.size)) news.toList).run P w).andThen fun _ w' => .ok (.slice (some a) (sLen + n) sCap) w' := by
  have hzz := not_int hxd
  simp [Builtin.append_, run_und hst, run_und hxt, run_size hi, hl, hc, hfit, hzz]

theorem run_fit_nil {st xt : TypeId} {ty e : TypeId} {xd : TypeDesc} {i : TypeInfo} {x : Value} {news : Array Value} (hst : P.underlying st = some (.slice e)) (hxt : P.underlying xt = some xd)
    (hxd : ∀ k, xd ≠ .int k) (hi : P.info? e = some i) (hl : (Builtin.lenOf x).run P w = .ok 0 w) (hc : (Builtin.firstCells i.size 0 x).run P w = .ok news w) :
    (Builtin.append_ #[st, xt] ty #[.slice none 0 0, x]).run P w = .ok (.slice none 0 0) w := by
  have hzz := not_int hxd
  simp [Builtin.append_, run_und hst, run_und hxt, run_size hi, hl, hc, hzz]

/-- An append that makes a new row. -/
theorem run_new {st xt : TypeId} {ty e : TypeId} {xd : TypeDesc} {i : TypeInfo} {x : Value} {olds news : Array Value} {n : Nat} {z : Value} (hst : P.underlying st = some (.slice e)) (hxt : P.underlying xt = some xd)
    (hxd : ∀ k, xd ≠ .int k) (hi : P.info? e = some i) (hz : i.zero = some z) (ao : Option Addr) (sLen sCap : Nat) (hl : (Builtin.lenOf x).run P w = .ok n w)
    (hc : (Builtin.firstCells i.size n x).run P w.drew = .ok news w.drew) (ho : (Builtin.firstCells i.size sLen (.slice ao sLen sCap)).run P w.drew = .ok olds w.drew)
    (hno : sCap < sLen + n) (hb : (sLen + n) * i.bytes ≤ 140737488355328) (h63 : sLen + n ≤ 4611686018427387904) :
    ∃ cap, sLen + n ≤ cap ∧ (Builtin.append_ #[st, xt] ty #[.slice ao sLen sCap, x]).run P w =
      .ok (.slice (some ⟨w.heap.size, 0, none⟩) (sLen + n) cap) (w.drew.alloc (.cells (olds ++ news ++ Builtin.zeroCells z.cells (cap - (sLen + n))) e)) := by
  have hn : ¬ (sLen + n ≤ sCap) := by omega
  have h63' : ¬ (9223372036854775807 < ((sLen : Int) + (n : Int))) := by omega
  have h48' : ¬ (281474976710656 < Builtin.nextslicecap (sLen + n) sCap * i.bytes) := by
    have := growslice_fits hno hb; omega
  refine ⟨_, grownCap_ge w (sLen + n) sCap e, ?_⟩
  have hzz := not_int hxd
  simp [Builtin.append_, run_und hst, run_und hxt, typeInfo, zeroValue, sizeOf, hi, hz, hl, hn, h63', h48', Question.forced, hc, ho, newRow, grownCap, hzz]

theorem size_zeros (z : Array Value) (n : Nat) : (Builtin.zeroCells z n).size = n * z.size := by simp [Builtin.zeroCells]

/-- A new row that may have room. -/
theorem step_row {h : AHeap} (hr : HR ι h w) (hf : ι h.next = none) {c : List Value} {cs : Array Value} (e : TypeId) {n cap sz : Nat} (hc : VRL ι c cs.toList) (hl : c.length = n * sz) (hcap : n ≤ cap) (rest : Array Value) (hrs : rest.size = (cap - n) * sz) :
    Step ι h w (ι.upd h.next ⟨w.heap.size, 0, cap * sz, sz⟩) (h.push (.cells c (.tail sz))) (w.drew.alloc (.cells (cs ++ rest) e)) ∧
      VR (ι.upd h.next ⟨w.heap.size, 0, cap * sz, sz⟩) (.slice (some ⟨h.next, 0, some sz⟩) n n) (.slice (some ⟨w.heap.size, 0, none⟩) n cap) := by
  have hcs : cs.size = n * sz := by have := hc.1; simp at this; omega
  have hsum : n * sz + (cap - n) * sz = cap * sz := by rw [← Nat.add_mul]; congr 1; omega
  have hb := heap_alloc w.drew (.cells (cs ++ rest) e)
  refine ⟨Step.new hr hf rfl (by simp) (fun k hk => heap_alloc_lt w.drew _ hk) rfl rfl rfl ?_, ?_⟩
  · refine ⟨rfl, by simp only; omega, _, e, (0, 0), hb, by simp [hcs, hrs]; omega, fun j hj => ?_, fun j v hj => ?_⟩
    · have hb' : (w.drew.alloc (.cells (cs ++ rest) e)).heap[w.heap.size]? = some (.cells (cs ++ rest) e) := hb
      unfold World.frozen?; simp only [hb']; simp
    · obtain ⟨u, h1, h2⟩ := hc.getElem? hj
      have hlt := (List.getElem?_eq_some_iff.1 hj).1
      refine ⟨u, ?_, h2.mono (PMap.le_upd _ hf)⟩
      rw [Nat.zero_add, Array.getElem?_append_left (by omega)]
      simpa using h1
  · have := VR.sliceU (ι := ι.upd h.next ⟨w.heap.size, 0, cap * sz, sz⟩) 0 n n cap sz (PMap.upd_self _ _ _) (Nat.le_refl _) hcap rfl (by simp)
    simpa using this

theorem VRL.refl_plain {z : Value} (h : plainV 3 z = true) : VRL ι z.cells.toList z.cells.toList := (VR.refl_plain ι 3 z h).cells

theorem azeros_range (z : Array Value) (n : Nat) : ((Array.range n).map (z[· % z.size]!)).toList = azeros z.toList n ∨ z.size = 0 := by
  rcases Nat.eq_zero_or_pos z.size with h | h
  · exact .inr h
  · left
    apply List.ext_getElem
    · simp [azeros]
    · intro i h1 h2
      have hlt : i % z.size < z.size := Nat.mod_lt _ h
      simp [azeros, hlt]

theorem VRL.azeros {z : List Value} (h : VRL ι z z) (n : Nat) : VRL ι (azeros z n) (azeros z n) := by
  refine ⟨rfl, fun i h1 h2 => ?_⟩
  simp only [AM.azeros, List.getElem_map, List.getElem_range]
  by_cases hz : i % z.length < z.length
  · have := h.2 (i % z.length) hz hz
    simpa [List.getD, List.getElem?_eq_getElem hz] using this
  · have : z.getD (i % z.length) undef = undef := by simp [List.getD, List.getElem?_eq_none (Nat.not_lt.1 hz)]
    rw [this]
    exact .tuple _ _ rfl (fun i h1 => absurd h1 (by simp))

/-- An append of so many zeros to nothing. -/
theorem run_new_zeros {st xt : TypeId} {ty e : TypeId} {k : IntKind} {i : TypeInfo} {n : Int} {z : Value} (hst : P.underlying st = some (.slice e)) (hxt : P.underlying xt = some (.int k))
    (hi : P.info? e = some i) (hz : i.zero = some z) (hpos : 0 < n) (hb : n * i.bytes ≤ 140737488355328) (h63 : n ≤ 4611686018427387904) (c5 : 0 < i.size) (hzs : z.cells.size = i.size) :
    ∃ cap, n.toNat ≤ cap ∧ (Builtin.append_ #[st, xt] ty #[.slice none 0 0, .int .i64 n]).run P w =
      .ok (.slice (some ⟨w.heap.size, 0, none⟩) n.toNat cap) (w.drew.alloc (.cells (Builtin.zeroCells z.cells n.toNat ++ Builtin.zeroCells z.cells (cap - n.toNat)) e)) := by
  have hwr : IntKind.i64.wrap n = n := by simp [IntKind.wrap, IntKind.bits, IntKind.signed]; omega
  have hnn : ¬ (n < 0) := by omega
  have h1 : ¬ (281474976710656 < n * (i.bytes : Int)) := by omega
  have h2 : ¬ (n.toNat = 0) := by omega
  have hbn : (0 + n.toNat) * i.bytes ≤ 140737488355328 := by
    have : ((n.toNat * i.bytes : Nat) : Int) = n * i.bytes := by push_cast; rw [Int.toNat_of_nonneg (by omega)]
    rw [Nat.zero_add]; omega
  have h63' : ¬ (9223372036854775807 < ((n.toNat : Int))) := by omega
  have h48' : ¬ (281474976710656 < Builtin.nextslicecap n.toNat 0 * i.bytes) := by
    have := growslice_fits (show 0 < 0 + n.toNat by omega) hbn; simp only [Nat.zero_add] at this; omega
  have hns : ¬ (n.toNat * i.size = 0) := by
    have := Nat.mul_pos (show 0 < n.toNat by omega) c5; omega
  refine ⟨_, by simpa using grownCap_ge w n.toNat 0 e, ?_⟩
  simp [Builtin.append_, run_und hst, run_und hxt, typeInfo, zeroValue, sizeOf, hi, hz, asInt, asIntOf, hwr, hnn, h1, h2, hns, h63', h48', Question.forced, newRow, grownCap, Builtin.firstCells]
  rw [if_neg (by omega), if_neg (by omega)]

theorem ORel.tail_take {pl : Place} {c : List Value} {sz : Nat} (h : ORel ι w pl (.cells c (.tail sz))) (n : Nat) : ORel ι w pl (.cells (c.take n) (.tail sz)) := by
  obtain ⟨h0, hl, cs, e, fz, hb, hs, hf, hc⟩ := h
  refine ⟨h0, by simp; omega, cs, e, fz, hb, hs, hf, fun j v hj => ?_⟩
  rw [List.getElem?_take] at hj
  split at hj
  · exact hc j v hj
  · cases hj

theorem sim_append {h : AHeap} (hr : HR ι h w) {ats : Array TypeId} {ty : TypeId} {s x s' x' : Value} {v : Value} {h' : AHeap} (ha : aappendB P h ats s x = some (v, h')) (hs : VR ι s s') (hx : VR ι x x')
    (hf : ∀ id, h.next ≤ id → id < h'.next → ι id = none) :
    ∃ ι' w' v', (Builtin.append_ ats ty #[s', x']).run P w = .ok v' w' ∧ Step ι h w ι' h' w' ∧ VR ι' v v' := by
  unfold aappendB at ha
  split at ha
  · rename_i st xt hst
    have e0 : ats = #[st, xt] := by
      apply Array.toList_inj.1; simpa using hst
    subst e0
    split at ha
    · rename_i e xd hus hux
      split at ha
      · -- zeros
        split at ha
        · rename_i k hk n i hi
          split at ha
          · rename_i z hz
            split at ha
            · rename_i hc
              obtain ⟨c1, c2, c3, c4, c5, c6, c7, c8⟩ := hc
              cases ha
              cases hs
              rw [hx.int_inv]
              have hnx : ι h.next = none := hf h.next (Nat.le_refl _) (by simp)
              obtain ⟨cap, k1, k2⟩ := run_new_zeros (P := P) (w := w) (ty := ty) hus hux hi hz c1 c2 c3 c7 c4
              have hv : VRL ι (azeros z.cells.toList (n.toNat * i.size)) (Builtin.zeroCells z.cells n.toNat).toList := by
                rcases azeros_range z.cells (n.toNat * i.size) with h1 | h1
                · rw [← h1]
                  have e1 : Builtin.zeroCells z.cells n.toNat = (Array.range (n.toNat * i.size)).map (z.cells[· % z.cells.size]!) := by unfold Builtin.zeroCells; rw [c4]
                  rw [e1, h1]
                  exact (VRL.refl_plain c5).azeros _
                · omega
              obtain ⟨s1, s2⟩ := step_row hr hnx e hv (n := n.toNat) (sz := i.size) (by simp [azeros]) k1 (Builtin.zeroCells z.cells (cap - n.toNat)) (by rw [size_zeros, c4])
              exact ⟨_, _, _, k2, s1, s2⟩
            · cases ha
          · cases ha
        · cases ha
      · rename_i hxd
        split at ha
        · rename_i i hi
          split at ha
          · rename_i z n hz hn
            split at ha
            · rename_i news hnews
              split at ha
              · rename_i hc
                obtain ⟨c1, c2, c3, c4, c5, c6⟩ := hc
                have hd : HR ι h w.drew := hr.heap rfl
                obtain ⟨news', r1, v1⟩ := sim_acells (P := P) hr hnews hx ⟨n, hn, Nat.le_refl _⟩
                obtain ⟨news'', r2, v2⟩ := sim_acells (P := P) hd hnews hx ⟨n, hn, Nat.le_refl _⟩
                have rl := sim_alen (P := P) (w := w) hn hx
                have hnl : news.length = n * i.size := by
                  unfold acells at hnews
                  split at hnews
                  · split at hnews
                    · rename_i h0; cases hnews; simp [h0]
                    · cases hnews
                  · split at hnews
                    · rename_i h0; cases hnews; simp [h0]
                    · split at hnews
                      · split at hnews
                        · cases hnews; simp; omega
                        · cases hnews
                      · cases hnews
                  · rename_i s0
                    split at hnews
                    · rename_i h0
                      cases hnews
                      simp only [alen, Option.some.injEq] at hn
                      subst hn
                      simp [h0]
                    · cases hnews
                  · cases hnews
                have fresh : ∀ {o : AObj}, h' = h.push o → ι h.next = none := fun e => hf h.next (Nat.le_refl _) (by rw [e]; simp)
                unfold aappend at ha
                split at ha
                · -- nil
                  cases hs
                  split at ha
                  · rename_i h0
                    cases ha
                    subst h0
                    exact ⟨ι, w, _, run_fit_nil hus hux hxd hi rl r1, .refl hr, .sliceNil⟩
                  · rename_i h0
                    split at ha
                    · rename_i hb
                      cases ha
                      obtain ⟨cap, k1, k2⟩ := run_new (P := P) (ty := ty) (sLen := 0) (sCap := 0) (ao := none) (olds := #[]) hus hux hxd hi hz rl r2 (by simp [Builtin.firstCells]) (by omega) (by simpa using hb.1) (by omega)
                      simp only [Nat.zero_add, Array.empty_append] at k1 k2
                      obtain ⟨s1, s2⟩ := step_row hr (fresh rfl) e v2 hnl k1 (Builtin.zeroCells z.cells (cap - n)) (by rw [size_zeros, c1])
                      exact ⟨_, _, _, k2, s1, s2⟩
                    · cases ha
                · rename_i a len cap
                  split at ha
                  · rename_i hsp
                    obtain ⟨id, off, sp⟩ := a
                    replace hsp : sp = none := hsp
                    subst hsp
                    split at ha
                    · rename_i hfit
                      split at ha
                      · -- nothing is appended
                        rename_i h0
                        cases ha
                        subst h0
                        have hn0 : news = [] := List.eq_nil_of_length_eq_zero (by simpa using hnl)
                        subst hn0
                        have hne := v1.nil_inv
                        have : ∃ b l c, s' = .slice (some b) l c ∧ l ≤ c := by
                          cases hs with
                          | sliceX off len cap hι hlc => exact ⟨_, _, _, rfl, hlc⟩
                          | slice0 => exact ⟨_, _, _, rfl, Nat.le_refl _⟩
                        obtain ⟨b, l, c, rfl, hlc⟩ := this
                        refine ⟨ι, w, .slice (some b) l c, ?_, .refl hr, hs⟩
                        rw [run_fit hus hux hxd hi b l c rl r1 (by omega), hne]
                        simp [storeCells]
                      · rename_i h0
                        split at ha
                        · rename_i c md hg
                          split at ha
                          · rename_i hw
                            cases ha
                            cases hs with
                            | @sliceX id pl off len cap hι hlc =>
                              have ho := hr.obj _ _ hι
                              rw [hg] at ho
                              have hsum : len * i.size + n * i.size = (len + n) * i.size := by rw [← Nat.add_mul]
                              obtain ⟨w', q1, q2, q3⟩ := store_cells (P := P) hw.1 news news'.toList c (off + len * i.size) 0 w ho (by have hw2 : off + (len + n) * i.size ≤ c.length := hw.2; omega) v1 c3
                              refine ⟨ι, w', _, ?_, q2.step hr hι ?_ (by simpa using q3), .sliceX off _ cap hι hfit⟩
                              · rw [run_fit hus hux hxd hi _ len cap rl r1 hfit, add_lit, Nat.add_assoc, q1]; rfl
                              · rw [hg]; cases md <;> simp_all [AObj.own]
                            | slice0 => omega
                          · cases ha
                        · cases ha
                    · rename_i hfit
                      split at ha
                      · rename_i hb
                        split at ha
                        · rename_i old hold
                          cases ha
                          have hlen : old.length = len * i.size := by
                            unfold acells at hold
                            simp only at hold
                            split at hold
                            · rename_i h0; cases hold; simp [h0]
                            · split at hold
                              · split at hold
                                · cases hold; simp; omega
                                · cases hold
                              · cases hold
                          obtain ⟨old', r3, v3⟩ := sim_acells (P := P) hd hold hs ⟨len, rfl, Nat.le_refl _⟩
                          have : ∃ b, s' = .slice (some b) len cap := by
                            cases hs with
                            | sliceX off len cap hι hlc => exact ⟨_, rfl⟩
                            | slice0 => exact ⟨_, rfl⟩
                          obtain ⟨b, rfl⟩ := this
                          obtain ⟨cap', k1, k2⟩ := run_new (P := P) (ty := ty) hus hux hxd hi hz (some b) len cap rl r2 r3 (by omega) hb.1 hb.2
                          obtain ⟨s1, s2⟩ := step_row hr (fresh rfl) (cs := old' ++ news'') e (by simpa using v3.append v2) (sz := i.size) (by rw [List.length_append, hlen, hnl, ← Nat.add_mul]) k1 (Builtin.zeroCells z.cells (cap' - (len + n))) (by rw [size_zeros, c1])
                          exact ⟨_, _, _, k2, s1, s2⟩
                        · cases ha
                      · cases ha
                  · rename_i sz₀ hsp
                    obtain ⟨id, off, sp⟩ := a
                    replace hsp : sp = some sz₀ := hsp
                    subst hsp
                    split at ha
                    · -- nothing is appended
                      rename_i h0
                      cases ha
                      subst h0
                      have hn0 : news = [] := List.eq_nil_of_length_eq_zero (by simpa using hnl)
                      subst hn0
                      have hne := v1.nil_inv
                      have : ∃ b l c, s' = .slice (some b) l c ∧ l ≤ c := by
                        cases hs with
                        | sliceU off len kn cap sz hι hlc hk hsz hb => exact ⟨_, _, _, rfl, Nat.le_trans hlc hk⟩
                        | slice0 => exact ⟨_, _, _, rfl, Nat.le_refl _⟩
                      obtain ⟨b, l, c, rfl, hlc⟩ := this
                      refine ⟨ι, w, .slice (some b) l c, ?_, .refl hr, hs⟩
                      rw [run_fit hus hux hxd hi b l c rl r1 (by omega), hne]
                      simp [storeCells]
                    · rename_i h0
                      split at ha
                      · -- room that is known
                        rename_i hfit
                        split at ha
                        · rename_i c md hg
                          split at ha
                          · rename_i hw
                            cases ha
                            cases hs with
                            | @sliceU id pl off len kn cap' sz hι hlc hk hsz hbd =>
                              have ho := hr.obj _ _ hι
                              rw [hg] at ho
                              have hsum : len * i.size + n * i.size = (len + n) * i.size := by rw [← Nat.add_mul]
                              obtain ⟨w', q1, q2, q3⟩ := store_cells (P := P) hw.1 news news'.toList c (off + len * i.size) 0 w ho (by have hw2 : off + (len + n) * i.size ≤ c.length := hw.2; omega) v1 c3
                              refine ⟨ι, w', _, ?_, q2.step hr hι ?_ (by simpa using q3), .sliceU off _ _ cap' sz₀ hι hfit hk hsz hbd⟩
                              · rw [run_fit hus hux hxd hi _ len cap' rl r1 (by omega), add_lit, Nat.add_assoc, q1]; rfl
                              · rw [hg]; cases md <;> simp_all [AObj.own]
                            | slice0 => omega
                          · cases ha
                        · cases ha
                      rename_i hnofit
                      split at ha
                      · rename_i hb
                        split at ha
                        · rename_i c sz' hg
                          split at ha
                          · rename_i hw
                            cases ha
                            obtain ⟨w1, w2, w3⟩ := hw
                            subst w1
                            replace w3 : off + len * i.size ≤ c.length := w3
                            have hnx : ι h.next = none := hf h.next (Nat.le_refl _) (by simp)
                            have hown : (h.get id).own = true := by rw [hg]; rfl
                            -- the old cells, from off on
                            have hold : acells h i.size len (.slice (some ⟨id, off, some sz₀⟩) len cap) = some ((c.drop off).take (len * i.size)) := by
                              unfold acells
                              simp only
                              split
                              · rename_i hz0
                                rw [hz0, List.take_zero]
                              · simp only [hg]
                                rw [if_pos (by omega)]
                            have hnl' : ((c.drop off).take (len * i.size)).length = len * i.size := by simp; omega
                            have hks := Step.kill hr id
                            -- a new row
                            have grown : ∀ {b : Addr} {c0 : Nat}, s' = .slice (some b) len c0 → c0 < len + n →
                                ∃ ι' w' v', (Builtin.append_ #[st, xt] ty #[s', x']).run P w = .ok v' w' ∧ Step ι h w ι' ((h.set id .dead).push (.cells ((c.drop off).take (len * i.size) ++ news) (.tail i.size))) w' ∧ VR ι' (.slice (some ⟨h.next, 0, some i.size⟩) (len + n) (len + n)) v' := by
                              intro b c0 es hlt
                              obtain ⟨old', r3, v3⟩ := sim_acells (P := P) hd hold hs ⟨len, rfl, Nat.le_refl _⟩
                              rw [es] at r3 ⊢
                              obtain ⟨cap', k1, k2⟩ := run_new (P := P) (ty := ty) hus hux hxd hi hz (some b) len c0 rl r2 (by
                                have : (Builtin.firstCells i.size len (.slice (some b) len c0)) = Builtin.firstCells i.size len (.slice (some b) len c0) := rfl
                                exact r3) (by omega) hb.1 hb.2
                              obtain ⟨s1, s2⟩ := step_row (h := h.set id .dead) hks.hr (by simpa using hnx) (cs := old' ++ news'') e (by simpa using v3.append v2) (n := len + n) (sz := i.size) (by rw [List.length_append, hnl', hnl, ← Nat.add_mul]) k1 (Builtin.zeroCells z.cells (cap' - (len + n))) (by rw [size_zeros, c1])
                              rw [AHeap.next_set] at s1 s2
                              exact ⟨_, _, _, k2, hks.trans s1, s2⟩
                            cases hs with
                            | @sliceU id pl off len kn cap' sz hι hlc hk hsz hbd =>
                              by_cases hroom : len + n ≤ cap'
                              · have ho := hr.obj _ _ hι
                                rw [hg] at ho
                                have hsum : len * i.size + n * i.size = (len + n) * i.size := by rw [← Nat.add_mul]
                                have hle : (len + n) * i.size ≤ cap' * i.size := Nat.mul_le_mul_right _ hroom
                                rw [w2] at hbd
                                have ho' := ho.tail_take (off + len * i.size)
                                have htl : (c.take (off + len * i.size)).length = off + len * i.size := by simp; omega
                                have hlim : c.length ≤ pl.lim := ho.2.1
                                obtain ⟨w', q1, q2, q3⟩ := tail_cells (P := P) news news'.toList (c.take (off + len * i.size)) (off + len * i.size) 0 w ho' (by omega) (by omega) v1 c3
                                have q4 := tail_shift q3 off (by simp; omega)
                                refine ⟨ι.upd h.next ⟨pl.b, pl.base + off, pl.lim - off, i.size⟩, w', .slice (some ⟨pl.b, pl.base + off, none⟩) (len + n) cap', ?_, ?_, ?_⟩
                                · rw [run_fit hus hux hxd hi _ len cap' rl r1 hroom, add_lit, Nat.add_assoc, q1]; rfl
                                · refine Step.moveOn hr hnx hι hown rfl q2.size q2.keep q2.os q2.tape q2.output ?_
                                  rw [List.drop_append_of_le_length (by omega), List.drop_take, Nat.add_sub_cancel_left] at q4
                                  exact q4.mono (PMap.le_upd _ hnx) fun _ => rfl
                                · have := VR.sliceU (ι := ι.upd h.next ⟨pl.b, pl.base + off, pl.lim - off, i.size⟩) 0 (len + n) (len + n) cap' i.size (PMap.upd_self _ _ _) (Nat.le_refl _) hroom rfl (by simp; omega)
                                  simpa using this
                              · exact grown rfl (by omega)
                            | slice0 a b => exact grown rfl (by omega)
                          · cases ha
                        · cases ha
                      · cases ha
                · cases ha
              · cases ha
            · cases ha
          · cases ha
        · cases ha
    · cases ha
  · cases ha

end
end Go.AM
