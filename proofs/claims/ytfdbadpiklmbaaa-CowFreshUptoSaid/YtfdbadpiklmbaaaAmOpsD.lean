/- AM: the other operations that make or write; and all of them together. -/
import Derived.Test.YtfdbadpiklmbaaaAmOpsC
set_option linter.unusedSimpArgs false
set_option linter.unusedVariables false
set_option linter.unnecessarySimpa false
set_option maxRecDepth 100000
namespace Go.AM
section
variable {P : Program} {ι : PMap} {w : World}

theorem sim_make {h : AHeap} (hr : HR ι h w) {t : TypeId} {l c l' c' : Value} {v : Value} {h' : AHeap} (ha : amake P h t l c = some (v, h')) (hl : VR ι l l') (hc : VR ι c c')
    (hf : ∀ id, h.next ≤ id → id < h'.next → ι id = none) :
    ∃ ι' w' v', (Instr.makeSlice t l' c').run P w = .ok v' w' ∧ Step ι h w ι' h' w' ∧ VR ι' v v' := by
  unfold amake at ha
  split at ha
  · rename_i e kl l kc c ht
    split at ha
    · rename_i i hi
      split at ha
      · rename_i z hz
        split at ha
        · rename_i hcond
          cases ha
          obtain ⟨c1, c2, c3, c4, c5, c6, c7⟩ := hcond
          rw [hl.int_inv, hc.int_inv]
          have hrun := run_make (P := P) w t e i z ht hi hz kl kc l c c1 c2 (by simpa using c3) (by omega)
          have hnx : ι h.next = none := hf _ (Nat.le_refl _) (by simp)
          have hv : VRL ι (azeros z.cells.toList (c.toNat * i.size)) (madeCells z.cells (c.toNat * i.size)).toList := by
            rcases azeros_range z.cells (c.toNat * i.size) with h1 | h1
            · unfold madeCells; rw [h1]; exact (VRL.refl_plain c6).azeros _
            · have : c.toNat * i.size = 0 := by rw [← c5, h1]; simp
              rw [this]
              exact ⟨by simp [AM.azeros, madeCells], fun i h1 => absurd h1 (by simp [AM.azeros])⟩
          have hs := step_alloc hr hnx e hv
          refine ⟨_, _, _, hrun, hs, ?_⟩
          have := VR.sliceX (ι := ι.upd h.next ⟨w.heap.size, 0, (azeros z.cells.toList (c.toNat * i.size)).length, 0⟩) 0 l.toNat c.toNat (PMap.upd_self _ _ _) (by omega)
          simpa using this
        · cases ha
      · cases ha
    · cases ha
  · cases ha

theorem sim_buildSlice {h : AHeap} (hr : HR ι h w) {t : TypeId} {len : Nat} {parts parts' : List (Nat × Value)} {v : Value} {h' : AHeap} (ha : abuildSlice P h t len parts = some (v, h'))
    (hp : parts.map (·.1) = parts'.map (·.1)) (hv : VRL ι (parts.map (·.2)) (parts'.map (·.2))) (hf : ∀ id, h.next ≤ id → id < h'.next → ι id = none) :
    ∃ ι' w' v', (Instr.buildSlice t len parts'.toArray).run P w = .ok v' w' ∧ Step ι h w ι' h' w' ∧ VR ι' v v' := by
  unfold abuildSlice at ha
  split at ha
  · rename_i e ht
    split at ha
    · rename_i i hi
      split at ha
      · rename_i z hz
        split at ha
        · rename_i hcond
          obtain ⟨c1, c2, c3⟩ := hcond
          cases hfi : afill (fun k => some (k * i.size, i.size)) (azeros z.cells.toList (len * i.size)) parts with
          | none => simp [hfi] at ha
          | some c =>
            simp only [hfi, Option.map_some, Option.some.injEq, Prod.mk.injEq] at ha
            obtain ⟨rfl, rfl⟩ := ha
            have hnx : ι h.next = none := hf _ (Nat.le_refl _) (by simp)
            have hzc : ∃ cells0 : Array Value, VRL ι (azeros z.cells.toList (len * i.size)) cells0.toList ∧
                ∀ cells, Instr.fill (fun k => some (k * i.size, i.size)) cells0 parts' = some cells → (Instr.buildSlice t len parts'.toArray).run P w = .ok (.slice (some ⟨w.heap.size, 0, none⟩) len len) (w.alloc (.cells cells e)) := by
              by_cases h0 : len * i.size = 0
              · refine ⟨#[], by rw [h0]; simp only [AM.azeros]; exact .nil _, fun cells hcells => ?_⟩
                simp [Instr.buildSlice, run_und ht, run_size hi, h0, hcells, newRow, Array.range_zero']
              · refine ⟨(Array.range (len * i.size)).map (z.cells[· % z.cells.size]!), ?_, fun cells hcells => ?_⟩
                · rcases azeros_range z.cells (len * i.size) with h1 | h1
                  · rw [h1]; exact (VRL.refl_plain c3).azeros _
                  · rw [← c2, h1] at h0; simp at h0
                · exact run_buildSlice w t e len _ cells i z ht hi hz (by omega) h0 (by simpa using hcells)
            obtain ⟨cells0, hz1, hz2⟩ := hzc
            obtain ⟨c', h1, h2⟩ := sim_fill parts parts' _ cells0 c hfi hz1 hp hv
            have hs := step_alloc hr hnx e h2
            refine ⟨_, _, _, hz2 c' h1, hs, ?_⟩
            have := VR.sliceX (ι := ι.upd h.next ⟨w.heap.size, 0, c.length, 0⟩) 0 len len (PMap.upd_self _ _ _) (Nat.le_refl _)
            simpa using this
        · cases ha
      · cases ha
    · cases ha
  · cases ha

theorem sim_store {h : AHeap} (hr : HR ι h w) {t : TypeId} {v v' : Value} {id off : Nat} {h' : AHeap} (ha : astore P t v h id off = some h') (hv : VR ι v v') {pl : Place} (hι : ι id = some pl) :
    ∃ w', (storeVar t ⟨pl.b, pl.base + off, none⟩ v').run P w = .ok () w' ∧ Step ι h w ι h' w' := by
  unfold astore at ha
  split at ha
  · rename_i c md hg
    split at ha
    · rename_i hc
      obtain ⟨c1, c2, c3, c4, c5⟩ := hc
      cases ha
      have ho := hr.obj _ _ hι
      rw [hg] at ho
      obtain ⟨w', q1, q2, q3⟩ := store_cells (P := P) c1 v.cells.toList v'.cells.toList c off 0 w ho (by simpa using c4) hv.cells c5
      refine ⟨w', ?_, q2.step hr hι (by rw [hg]; cases md <;> simp_all [AObj.own]) (by simpa using q3)⟩
      simp only [storeVar, Sem.run_bind, run_size' c2, Result.andThen_ok]
      rw [if_neg (by rw [hv.cells_size, c3]; simp)]
      simp [q1]
    · cases ha
  · cases ha

theorem acells_len {h : AHeap} {sz n : Nat} {x : Value} {cs : List Value} (ha : acells h sz n x = some cs) (hn : ∃ m, alen x = some m ∧ n ≤ m) : cs.length = n * sz := by
  unfold acells at ha
  split at ha
  · split at ha
    · rename_i h0; cases ha; simp [h0]
    · cases ha
  · split at ha
    · rename_i h0; cases ha; simp [h0]
    · split at ha
      · split at ha
        · cases ha; simp; omega
        · cases ha
      · cases ha
  · rename_i s
    split at ha
    · rename_i h1
      cases ha
      obtain ⟨m, hm, hle⟩ := hn
      simp only [alen, Option.some.injEq] at hm
      subst hm
      have : n ≤ s.data.size := hle
      simp [h1]; omega
    · cases ha
  · cases ha

theorem sim_copy {h : AHeap} (hr : HR ι h w) {ats : Array TypeId} {ty : TypeId} {d s d' s' : Value} {v : Value} {h' : AHeap} (ha : acopy P h ats d s = some (v, h')) (hd : VR ι d d') (hs : VR ι s s') :
    ∃ w' v', (Builtin.copy_ ats ty #[d', s']).run P w = .ok v' w' ∧ Step ι h w ι h' w' ∧ VR ι v v' := by
  unfold acopy at ha
  split at ha
  · rename_i dt base dlen dcap hdt
    split at ha
    · rename_i e ht
      split at ha
      · rename_i i sl hi hsl
        split at ha
        · rename_i cs hcs
          have hmin : ∃ m, alen s = some m ∧ Nat.min sl dlen ≤ m := ⟨sl, hsl, Nat.min_le_left _ _⟩
          obtain ⟨cs', r1, v1⟩ := sim_acells (P := P) hr hcs hs hmin
          have rl := sim_alen (P := P) (w := w) hsl hs
          have hlen := acells_len hcs hmin
          have run0 : ∀ {b : Option Addr} {c : Nat}, (Builtin.copy_ ats ty #[.slice b dlen c, s']).run P w =
              ((match b with | some a => storeCells a cs'.toList | none => pure ()).run P w).andThen fun _ w' => .ok (.int .i64 (Nat.min sl dlen : Nat)) w' := by
            intro b c
            simp only [Builtin.copy_, hdt]
            cases b <;> simp [run_und ht, rl, run_size hi, r1, goInt]
          split at ha
          · cases ha
            cases hd
            exact ⟨w, _, run0, .refl hr, .int _ _⟩
          · rename_i a
            split at ha
            · rename_i h0
              cases ha
              have hc0 : cs = [] := List.eq_nil_of_length_eq_zero (by omega)
              subst hc0
              have hne := v1.nil_inv
              have : ∃ b c, d' = .slice (some b) dlen c := by cases hd <;> exact ⟨_, _, rfl⟩
              obtain ⟨b, c, rfl⟩ := this
              exact ⟨w, _, by rw [run0, hne]; rfl, .refl hr, .int _ _⟩
            · rename_i h0
              split at ha
              · rename_i c md hg
                split at ha
                · rename_i hc
                  obtain ⟨c1, c2, c3⟩ := hc
                  cases ha
                  have go : ∀ {pl : Place} {b : Addr} {cp : Nat}, ι a.block = some pl → b = ⟨pl.b, pl.base + a.off, none⟩ → d' = .slice (some b) dlen cp →
                      ∃ w' v', (Builtin.copy_ ats ty #[d', s']).run P w = .ok v' w' ∧ Step ι h w ι (h.set a.block (.cells (putCells c a.off cs) md)) w' ∧ VR ι (.int .i64 (Nat.min sl dlen : Nat)) v' := by
                    intro pl b cp hι hb hd'
                    have ho := hr.obj _ _ hι
                    rw [hg] at ho
                    obtain ⟨w', q1, q2, q3⟩ := store_cells (P := P) c1 cs cs'.toList c a.off 0 w ho (by omega) v1 c3
                    refine ⟨w', _, ?_, q2.step hr hι (by rw [hg]; cases md <;> simp_all [AObj.own]) (by simpa using q3), .int _ _⟩
                    rw [hd', run0, hb]
                    simp [q1]
                  cases hd with
                  | sliceX off len cap hι hlc => exact go hι rfl rfl
                  | sliceU off len kn cap' sz hι hlc hk hsz hb => exact go hι rfl rfl
                  | slice0 a b => simp at h0
                · cases ha
              · cases ha
        · cases ha
      · cases ha
    · cases ha
  · cases ha

theorem sim_clear {h : AHeap} (hr : HR ι h w) {ats : Array TypeId} {ty : TypeId} {x x' : Value} {v : Value} {h' : AHeap} (ha : aclear P h ats x = some (v, h')) (hx : VR ι x x') :
    ∃ w' v', (Builtin.clear_ ats ty #[x']).run P w = .ok v' w' ∧ Step ι h w ι h' w' ∧ VR ι v v' := by
  unfold aclear at ha
  have unit : VR ι (.tuple #[]) (.tuple #[]) := .tuple _ _ rfl (fun i h1 => absurd h1 (by simp))
  split at ha
  · rename_i t base n cap ht
    split at ha
    · rename_i e hu
      split at ha
      · rename_i h0
        cases ha
        subst h0
        have : ∃ b c, x' = .slice b 0 c := by cases hx <;> exact ⟨_, _, rfl⟩
        obtain ⟨b, c, rfl⟩ := this
        refine ⟨w, _, ?_, .refl hr, unit⟩
        cases b <;> simp [Builtin.clear_, ht, run_und hu]
      · rename_i h0
        split at ha
        · rename_i a z hz
          split at ha
          · rename_i c md hg
            split at ha
            · rename_i hc
              obtain ⟨c1, c2, c3, c4⟩ := hc
              cases ha
              have go : ∀ {pl : Place} {b : Addr} {cp : Nat}, ι a.block = some pl → b = ⟨pl.b, pl.base + a.off, none⟩ → x' = .slice (some b) n cp →
                  ∃ w' v', (Builtin.clear_ ats ty #[x']).run P w = .ok v' w' ∧ Step ι h w ι (h.set a.block (.cells (putCells c a.off (azeros z.cells.toList (n * z.cells.size))) md)) w' ∧ VR ι (.tuple #[]) v' := by
                intro pl b cp hι hb hx'
                have ho := hr.obj _ _ hι
                rw [hg] at ho
                have hzc : (Builtin.zeroCells z.cells n).toList = azeros z.cells.toList (n * z.cells.size) := by
                  rcases azeros_range z.cells (n * z.cells.size) with h1 | h1
                  · exact h1
                  · simp [Builtin.zeroCells, AM.azeros, h1]
                have hall : (azeros z.cells.toList (n * z.cells.size)).all one = true := by
                  simp only [AM.azeros, List.all_map, List.all_eq_true, List.mem_range]
                  intro i hi
                  have hlt : i % z.cells.size < z.cells.size := Nat.mod_lt _ (by
                    rcases Nat.eq_zero_or_pos z.cells.size with h1 | h1
                    · rw [h1] at hi; simp at hi
                    · exact h1)
                  simp only [Function.comp, List.getD, Array.length_toList, List.getElem?_eq_getElem (show i % z.cells.size < z.cells.toList.length by simpa using hlt), Option.getD_some]
                  exact List.all_eq_true.1 c3 _ (List.getElem_mem _)
                obtain ⟨w', q1, q2, q3⟩ := store_cells (P := P) c1 (azeros z.cells.toList (n * z.cells.size)) (azeros z.cells.toList (n * z.cells.size)) c a.off 0 w ho (by simp [AM.azeros]; omega) ((VRL.refl_plain c2).azeros _) hall
                refine ⟨w', _, ?_, q2.step hr hι (by rw [hg]; cases md <;> simp_all [AObj.own]) (by simpa using q3), unit⟩
                subst hx' hb
                obtain ⟨n, rfl⟩ : ∃ m, n = m + 1 := ⟨n - 1, by omega⟩
                simp only [Builtin.clear_, ht]
                simp [run_und hu, run_zero hz, hzc, q1]
              cases hx with
              | sliceX off len cap hι hlc => exact go hι rfl rfl
              | sliceU off len kn cap' sz hι hlc hk hsz hb => exact go hι rfl rfl
              | slice0 a b => exact absurd rfl h0
            · cases ha
          · cases ha
        · cases ha
    · cases ha
  · cases ha

theorem find_now {k : IntKind} {n : Int} {kd : IntKind} : ∀ (es es' : List MapEntry) (i : Nat) (r : Option (Nat × Value)), afind k n es i = some r → ERL ι es es' →
    ∃ r', Instr.findNow (.int kd) (.int k n) es' i = some r' ∧ (match r, r' with | none, none => True | some (a, v), some (b, v') => a = b ∧ VR ι v v' | _, _ => False)
  | [], es', i, r, h, he => by
    have : es' = [] := List.eq_nil_of_length_eq_zero (by simpa using he.1.symm)
    subst this
    simp [afind] at h
    subst h
    exact ⟨none, rfl, trivial⟩
  | e :: es, es', i, r, h, he => by
    cases es' with
    | nil => exact absurd he.1 (by simp)
    | cons e' es' =>
      have h0 := he.2 0 (by simp) (by simp)
      have hr : ERL ι es es' := ⟨by simpa using he.1, fun j h1 h2 => he.2 (j + 1) (by simpa using h1) (by simpa using h2)⟩
      unfold afind at h
      split at h
      · rename_i k' m hk
        have hk' : e'.key = .int k' m := by
          have := h0.1
          simp only [List.getElem_cons_zero, hk] at this
          exact this.int_inv
        split at h
        · rename_i hkk
          subst hkk
          split at h
          · rename_i hnm
            cases h
            subst hnm
            refine ⟨some (i, e'.val), ?_, rfl, h0.2.1⟩
            simp [Instr.findNow, hk', Instr.sameNow]
          · rename_i hnm
            obtain ⟨r', h1, h2⟩ := find_now (kd := kd) es es' (i + 1) r h hr
            refine ⟨r', ?_, h2⟩
            have : (n == m) = false := by simpa using hnm
            simp [Instr.findNow, hk', Instr.sameNow, this, h1]
        · cases h
      · cases h

theorem afind_key {k : IntKind} {n : Int} : ∀ (es : List MapEntry) (i0 j : Nat) (v : Value), afind k n es i0 = some (some (j, v)) → i0 ≤ j ∧ ∃ e, es[j - i0]? = some e ∧ e.key = .int k n ∧ e.val = v
  | [], i0, j, v, h => by simp [afind] at h
  | e :: es, i0, j, v, h => by
    unfold afind at h
    split at h
    · rename_i k' m hk
      split at h
      · rename_i hkk
        subst hkk
        split at h
        · rename_i hnm
          cases h
          subst hnm
          exact ⟨Nat.le_refl _, e, by simp, hk, rfl⟩
        · obtain ⟨h1, e', h2, h3⟩ := afind_key es (i0 + 1) j v h
          refine ⟨by omega, e', ?_, h3⟩
          rw [show j - i0 = (j - (i0 + 1)) + 1 by omega]
          simpa using h2
      · cases h
    · cases h

theorem run_find {kt : TypeId} {kd k : IntKind} {n : Int} {es' : List MapEntry} {r' : Option (Nat × Value)} (hk : P.underlying kt = some (.int kd)) (h : Instr.findNow (.int kd) (.int k n) es' 0 = some r') :
    (Instr.findKey kt (.int k n) es').run P w = .ok r' w := by
  simp [Instr.findKey, run_und hk, h]

theorem run_check {kt : TypeId} {kd k : IntKind} {n : Int} {b : Bool} (hk : P.underlying kt = some (.int kd)) : (Instr.checkKey b 10000 kt (.int k n)).run P w = .ok () w := by
  rw [show (10000 : Nat) = 9999 + 1 from rfl]
  unfold Instr.checkKey
  simp only [Sem.run_bind, run_und hk, Result.andThen_ok]
  rfl

theorem sim_lookup {h : AHeap} (hr : HR ι h w) {t : TypeId} {m ix m' ix' v : Value} {ok : Bool} (ha : alookup P h t m ix ok = some v) (hm : VR ι m m') (hix : VR ι ix ix') :
    ∃ v', (Instr.lookup t m' ix' ok).run P w = .ok v' w ∧ VR ι v v' := by
  unfold alookup at ha
  have two : ∀ {a a' b b' : Value}, VR ι a a' → VR ι b b' → VR ι (.tuple #[a, b]) (.tuple #[a', b']) := fun h1 h2 =>
    .of_tuple (VRA_iff.2 (by simpa using .cons h1 (.cons h2 (.nil ι))))
  split at ha
  · rename_i kt et k n ht
    split at ha
    · rename_i kd hkt
      split at ha
      · rename_i z hz
        split at ha
        · rename_i hpz
          have vz := VR.refl_plain ι 3 z hpz
          rw [hix.int_inv]
          split at ha
          · rename_i es hes
            have hes' : ∃ es' : Array MapEntry, ERL ι es es'.toList ∧
                (Instr.lookup t m' (.int k n) ok).run P w = (((Instr.findKey kt (.int k n) es'.toList).run P w).andThen fun r w1 => match r with
                  | some (_, v) => .ok (if ok then .tuple #[v, .bool true] else v) w1
                  | none => .ok (if ok then .tuple #[z, .bool false] else z) w1) := by
              split at hes
              · cases hes
                cases hm
                refine ⟨#[], ⟨rfl, fun i h1 => absurd h1 (by simp)⟩, ?_⟩
                simp only [Instr.lookup, Sem.run_bind, run_und ht, Result.andThen_ok, Sem.run_pure, run_check hkt]
                generalize (Instr.findKey kt (.int k n) (#[] : Array MapEntry).toList).run P w = q
                cases q with
                | ok r w1 => cases r <;> simp [run_zero hz] <;> rfl
                | halt h w1 => rfl
              · rename_i r
                split at hes
                · rename_i es0 clock hg
                  cases hes
                  obtain ⟨pl, hι, rfl⟩ := hm.map_inv
                  have ho := hr.obj _ _ hι
                  rw [hg] at ho
                  obtain ⟨es', hb, he⟩ := ho
                  refine ⟨es', he, ?_⟩
                  have hget : (getObj pl.b).run P w = .ok (.map es' clock) w := by simp [getObj, Sem.run, hb]
                  simp only [Instr.lookup, Sem.run_bind, run_und ht, Result.andThen_ok, Sem.run_pure, hget, run_check hkt]
                  generalize (Instr.findKey kt (.int k n) es'.toList).run P w = q
                  cases q with
                  | ok r w1 => cases r <;> simp [run_zero hz] <;> rfl
                  | halt h w1 => rfl
                · cases hes
              · cases hes
            obtain ⟨es', he, hrun⟩ := hes'
            split at ha
            · rename_i i v0 hf
              cases ha
              obtain ⟨r', h1, h2⟩ := find_now (kd := kd) es es'.toList 0 _ hf he
              cases r' with
              | none => exact h2.elim
              | some p =>
                obtain ⟨i', v0'⟩ := p
                obtain ⟨_, hv⟩ := h2
                refine ⟨if ok then .tuple #[v0', .bool true] else v0', by rw [hrun, run_find hkt h1]; rfl, ?_⟩
                cases ok
                · exact hv
                · exact two hv (.bool _)
            · rename_i hf
              cases ha
              obtain ⟨r', h1, h2⟩ := find_now (kd := kd) es es'.toList 0 _ hf he
              cases r' with
              | some p => exact h2.elim
              | none =>
                refine ⟨if ok then .tuple #[z, .bool false] else z, by rw [hrun, run_find hkt h1]; rfl, ?_⟩
                cases ok
                · exact vz
                · exact two vz (.bool _)
            · cases ha
          · cases ha
        · cases ha
      · cases ha
    · cases ha
  · cases ha

theorem ERL.modify {es es' : List MapEntry} (h : ERL ι es es') (i : Nat) {k k' v v' : Value} (hk : VR ι k k') (hv : VR ι v v') :
    ERL ι (es.modify i fun e => { e with key := k, val := v }) (es'.modify i fun e => { e with key := k', val := v' }) := by
  refine ⟨by simp [h.1], fun j h1 h2 => ?_⟩
  simp only [List.getElem_modify]
  have h0 := h.2 j (by simpa using h1) (by simpa using h2)
  split
  · exact ⟨hk, hv, h0.2.2⟩
  · exact h0

theorem sim_mapUpdate {h : AHeap} (hr : HR ι h w) {t : TypeId} {m ix v m' ix' v' : Value} {h' : AHeap} (ha : amapUpdate P h t m ix v = some h') (hm : VR ι m m') (hix : VR ι ix ix') (hv : VR ι v v') :
    ∃ w', (Instr.mapUpdate t m' ix' v').run P w = .ok () w' ∧ Step ι h w ι h' w' := by
  unfold amapUpdate at ha
  split at ha
  · rename_i kt et r k n ht
    split at ha
    · rename_i kd hkt
      split at ha
      · rename_i es clock hg
        rw [hix.int_inv]
        obtain ⟨pl, hι, rfl⟩ := hm.map_inv
        have ho := hr.obj _ _ hι
        rw [hg] at ho
        obtain ⟨es', hb, he⟩ := ho
        have hown : (h.get r).own = true := by rw [hg]; rfl
        have hlt : pl.b < w.heap.size := hr.lt _ _ hι (by rw [hg]; rfl)
        have hget : (getObj pl.b).run P w = .ok (.map es' clock) w := by simp [getObj, Sem.run, hb]
        have hset : ∀ (o : Obj), (setObj pl.b o).run P w = .ok () { w with heap := w.heap.setIfInBounds pl.b o } := fun o => by simp [setObj, Sem.run, hb]
        have put : ∀ (o : Obj), Put w { w with heap := w.heap.setIfInBounds pl.b o } pl.b := fun o =>
          ⟨by simp, fun k hk => by simp only; rw [Array.getElem?_setIfInBounds_ne (Ne.symm hk)], rfl, rfl, rfl⟩
        split at ha
        · rename_i i v0 hf
          cases ha
          obtain ⟨r', h1, h2⟩ := find_now (kd := kd) es es'.toList 0 _ hf he
          cases r' with
          | none => exact h2.elim
          | some p =>
            obtain ⟨i', v0'⟩ := p
            obtain ⟨rfl, _⟩ := h2
            -- the key that lies there is the same number
            have hkey : ((es'[i]?).map (·.key)).getD (.int k n) = .int k n := by
              obtain ⟨_, e0, g1, g2, _⟩ := afind_key es 0 i v0 hf
              simp only [Nat.sub_zero] at g1
              obtain ⟨hl, rfl⟩ := List.getElem?_eq_some_iff.1 g1
              have hl' : i < es'.size := by have := he.1; simp at this; omega
              have := (he.2 i hl (by simpa using hl')).1
              rw [g2] at this
              have := this.int_inv
              simp only [Array.getElem_toList] at this
              simp [hl', this]
            refine ⟨{ w with heap := w.heap.setIfInBounds pl.b (.map (es'.modify i fun e => { e with key := .int k n, val := v' }) clock) }, ?_, (put _).step hr hι hown ⟨es'.modify i fun e => { e with key := .int k n, val := v' }, by simp [hlt], ?_⟩⟩
            · simp only [Instr.mapUpdate, Sem.run_bind, run_und ht, Result.andThen_ok, hget, run_check hkt, run_find hkt h1, hkey]
              simp [Instr.keyThatStays, Instr.sameBits, hset]
            · rw [Array.toList_modify]; exact he.modify i (.int _ _) hv
        · rename_i hf
          cases ha
          obtain ⟨r', h1, h2⟩ := find_now (kd := kd) es es'.toList 0 _ hf he
          cases r' with
          | some p => exact h2.elim
          | none =>
            refine ⟨{ w with heap := w.heap.setIfInBounds pl.b (.map (es'.push { key := .int k n, val := v', born := clock }) (clock + 1)) }, ?_, (put _).step hr hι hown ⟨es'.push { key := .int k n, val := v', born := clock }, by simp [hlt], ?_⟩⟩
            · simp only [Instr.mapUpdate, Sem.run_bind, run_und ht, Result.andThen_ok, hget, run_check hkt, run_find hkt h1]
              simp [hset]
            · refine ⟨by simp [he.1], fun j g1 g2 => ?_⟩
              by_cases hj : j < es.length
              · have := he.2 j hj (by have := he.1; simp at this ⊢; omega)
                simp only [Array.toList_push, List.getElem_append_left hj, List.getElem_append_left (show j < es'.toList.length by have := he.1; omega)]
                exact this
              · have e1 : j = es.length := by simp at g1; omega
                subst e1
                have e2 := he.1
                simp only [Array.toList_push]
                rw [List.getElem_append_right (by simp), List.getElem_append_right (by omega)]
                simp
                exact ⟨.int _ _, hv⟩
        · cases ha
      · cases ha
    · cases ha
  · cases ha

theorem find_asking {h : AHeap} (hr : HR ι h w) {kt : TypeId} {k k' : Value} (hk : VR ι k k') : ∀ (es es' : List MapEntry) (i : Nat) (r : Option (Nat × Value)), afindP P h kt k es i = some r → ERL ι es es' →
    ∃ r', (Instr.findAsking kt k' es' i).run P w = .ok r' w ∧ (match r, r' with | none, none => True | some (a, v), some (b, v') => a = b ∧ VR ι v v' | _, _ => False)
  | [], es', i, r, h, he => by
    have : es' = [] := List.eq_nil_of_length_eq_zero (by simpa using he.1.symm)
    subst this
    simp [afindP] at h
    subst h
    exact ⟨none, rfl, trivial⟩
  | e :: es, es', i, r, h, he => by
    cases es' with
    | nil => exact absurd he.1 (by simp)
    | cons e' es' =>
      have h0 := he.2 0 (by simp) (by simp)
      have hr2 : ERL ι es es' := ⟨by simpa using he.1, fun j h1 h2 => he.2 (j + 1) (by simpa using h1) (by simpa using h2)⟩
      unfold afindP at h
      split at h
      · rename_i ha
        cases h
        have := (sim_aequal hr ha hk h0.1).1
        simp only [List.getElem_cons_zero] at this
        refine ⟨some (i, e'.val), ?_, rfl, h0.2.1⟩
        simp only [Instr.findAsking, Sem.run_bind, this, Result.andThen_ok]
        rfl
      · rename_i ha
        obtain ⟨r', h1, h2⟩ := find_asking hr hk es es' (i + 1) r h hr2
        have := (sim_aequal hr ha hk h0.1).1
        simp only [List.getElem_cons_zero] at this
        refine ⟨r', ?_, h2⟩
        simp only [Instr.findAsking, Sem.run_bind, this, Result.andThen_ok]
        exact h1
      · cases h
theorem run_findP {kt e : TypeId} {a : Option Addr} {es' : List MapEntry} {r' : Option (Nat × Value)} (hk : P.underlying kt = some (.pointer e)) (h : (Instr.findAsking kt (.pointer a) es' 0).run P w = .ok r' w) :
    (Instr.findKey kt (.pointer a) es').run P w = .ok r' w := by
  simp only [Instr.findKey, Sem.run_bind, run_und hk, Result.andThen_ok]
  cases es' with
  | nil => exact h
  | cons e0 es' => exact h
theorem run_checkP {kt e : TypeId} {a : Option Addr} {b : Bool} (hk : P.underlying kt = some (.pointer e)) : (Instr.checkKey b 10000 kt (.pointer a)).run P w = .ok () w := by
  rw [show (10000 : Nat) = 9999 + 1 from rfl]
  unfold Instr.checkKey
  simp only [Sem.run_bind, run_und hk, Result.andThen_ok]
  rfl
theorem aeqP_eq {h : AHeap} {kt e : TypeId} {a : Option Addr} {y : Value} (hk : P.underlying kt = some (.pointer e)) (ha : aequal P h kt (.pointer a) y = some true) : y = .pointer a := by
  unfold aequal at ha
  cases a with
  | none =>
    cases y <;> simp [aeq, hk] at ha
    rw [ha]
  | some a =>
    cases y <;> simp only [aeq, hk] at ha <;> (try cases ha; done)
    rename_i b
    cases b with
    | none => simp at ha
    | some b =>
      simp only at ha
      split at ha
      · cases ha
      · rename_i hn
        split at ha
        · rename_i hb
          simp only [Option.some.injEq, decide_eq_true_eq] at ha
          obtain ⟨a1, a2, a3⟩ := a
          obtain ⟨b1, b2, b3⟩ := b
          simp only [ne_eq, not_or, Decidable.not_not] at hn ha hb
          obtain ⟨_, _, rfl, rfl⟩ := hn
          subst ha hb
          rfl
        · split at ha <;> simp at ha
theorem afindP_key {h : AHeap} {kt e : TypeId} {a : Option Addr} (hk : P.underlying kt = some (.pointer e)) : ∀ (es : List MapEntry) (i0 j : Nat) (v : Value), afindP P h kt (.pointer a) es i0 = some (some (j, v)) → i0 ≤ j ∧ ∃ e, es[j - i0]? = some e ∧ e.key = .pointer a
  | [], i0, j, v, h => by simp [afindP] at h
  | e :: es, i0, j, v, h => by
    unfold afindP at h
    split at h
    · rename_i ha
      cases h
      exact ⟨Nat.le_refl _, e, by simp, aeqP_eq hk ha⟩
    · obtain ⟨h1, e', h2, h3⟩ := afindP_key hk es (i0 + 1) j v h
      refine ⟨by omega, e', ?_, h3⟩
      rw [show j - i0 = (j - (i0 + 1)) + 1 by omega]
      simpa using h2
    · cases h
theorem VR.ptrFun {v : Value} {x y : Value} (h1 : VR ι v x) (h2 : VR ι v y) (hp : ∃ a, v = .pointer a) : x = y := by
  obtain ⟨a, rfl⟩ := hp
  cases h1 with
  | ptrNil => cases h2; rfl
  | ptr off hi =>
    cases h2 with
    | ptr off' hi' => rw [hi] at hi'; cases hi'; rfl

theorem sim_lookupK {h : AHeap} (hr : HR ι h w) {t : TypeId} {m ix m' ix' v : Value} {ok : Bool} (ha : alookupK P h t m ix ok = some v) (hm : VR ι m m') (hix : VR ι ix ix') :
    ∃ v', (Instr.lookup t m' ix' ok).run P w = .ok v' w ∧ VR ι v v' := by
  unfold alookupK at ha
  split at ha
  · rename_i a
    have two : ∀ {a a' b b' : Value}, VR ι a a' → VR ι b b' → VR ι (.tuple #[a, b]) (.tuple #[a', b']) := fun h1 h2 =>
      .of_tuple (VRA_iff.2 (by simpa using .cons h1 (.cons h2 (.nil ι))))
    have hp : ∃ a', ix' = .pointer a' := by cases hix <;> exact ⟨_, rfl⟩
    obtain ⟨a', rfl⟩ := hp
    unfold alookupP at ha
    split at ha
    · rename_i kt et ht
      split at ha
      · rename_i e hkt
        split at ha
        · rename_i z hz
          split at ha
          · rename_i hpz
            have vz := VR.refl_plain ι 3 z hpz
            split at ha
            · rename_i r
              split at ha
              · rename_i es clock hg
                obtain ⟨pl, hι, rfl⟩ := hm.map_inv
                have ho := hr.obj _ _ hι
                rw [hg] at ho
                obtain ⟨es', hb, he⟩ := ho
                have hget : (getObj pl.b).run P w = .ok (.map es' clock) w := by simp [getObj, Sem.run, hb]
                have hrun : (Instr.lookup t (.map (some pl.b)) (.pointer a') ok).run P w = (((Instr.findKey kt (.pointer a') es'.toList).run P w).andThen fun r w1 => match r with
                    | some (_, v) => .ok (if ok then .tuple #[v, .bool true] else v) w1
                    | none => .ok (if ok then .tuple #[z, .bool false] else z) w1) := by
                  simp only [Instr.lookup, Sem.run_bind, run_und ht, Result.andThen_ok, Sem.run_pure, hget, run_checkP hkt]
                  generalize (Instr.findKey kt (.pointer a') es'.toList).run P w = q
                  cases q with
                  | ok r w1 => cases r <;> simp [run_zero hz] <;> rfl
                  | halt h w1 => rfl
                split at ha
                · rename_i i v0 hf
                  cases ha
                  obtain ⟨r', h1, h2⟩ := find_asking hr hix es es'.toList 0 _ hf he
                  cases r' with
                  | none => exact h2.elim
                  | some p =>
                    obtain ⟨i', v0'⟩ := p
                    obtain ⟨_, hv⟩ := h2
                    refine ⟨if ok then .tuple #[v0', .bool true] else v0', by rw [hrun, run_findP hkt h1]; rfl, ?_⟩
                    cases ok
                    · exact hv
                    · exact two hv (.bool _)
                · rename_i hf
                  cases ha
                  obtain ⟨r', h1, h2⟩ := find_asking hr hix es es'.toList 0 _ hf he
                  cases r' with
                  | some p => exact h2.elim
                  | none =>
                    refine ⟨if ok then .tuple #[z, .bool false] else z, by rw [hrun, run_findP hkt h1]; rfl, ?_⟩
                    cases ok
                    · exact vz
                    · exact two vz (.bool _)
                · cases ha
              · cases ha
            · cases ha
          · cases ha
        · cases ha
      · cases ha
    · cases ha
  · exact sim_lookup hr ha hm hix

theorem sim_mapUpdateK {h : AHeap} (hr : HR ι h w) {t : TypeId} {m ix v m' ix' v' : Value} {h' : AHeap} (ha : amapUpdateK P h t m ix v = some h') (hm : VR ι m m') (hix : VR ι ix ix') (hv : VR ι v v') :
    ∃ w', (Instr.mapUpdate t m' ix' v').run P w = .ok () w' ∧ Step ι h w ι h' w' := by
  unfold amapUpdateK at ha
  split at ha
  · rename_i a
    have hp : ∃ a', ix' = .pointer a' := by cases hix <;> exact ⟨_, rfl⟩
    obtain ⟨a', rfl⟩ := hp
    unfold amapUpdateP at ha
    split at ha
    · rename_i kt et ht
      split at ha
      · rename_i e hkt
        split at ha
        · rename_i r
          split at ha
          · rename_i es clock hg
            obtain ⟨pl, hι, rfl⟩ := hm.map_inv
            have ho := hr.obj _ _ hι
            rw [hg] at ho
            obtain ⟨es', hb, he⟩ := ho
            have hown : (h.get r).own = true := by rw [hg]; rfl
            have hlt : pl.b < w.heap.size := hr.lt _ _ hι (by rw [hg]; rfl)
            have hget : (getObj pl.b).run P w = .ok (.map es' clock) w := by simp [getObj, Sem.run, hb]
            have hset : ∀ (o : Obj), (setObj pl.b o).run P w = .ok () { w with heap := w.heap.setIfInBounds pl.b o } := fun o => by simp [setObj, Sem.run, hb]
            have put : ∀ (o : Obj), Put w { w with heap := w.heap.setIfInBounds pl.b o } pl.b := fun o =>
              ⟨by simp, fun k hk => by simp only; rw [Array.getElem?_setIfInBounds_ne (Ne.symm hk)], rfl, rfl, rfl⟩
            split at ha
            · rename_i i v0 hf
              cases ha
              obtain ⟨r', h1, h2⟩ := find_asking hr hix es es'.toList 0 _ hf he
              cases r' with
              | none => exact h2.elim
              | some p =>
                obtain ⟨i', v0'⟩ := p
                obtain ⟨rfl, _⟩ := h2
                have hkey : ((es'[i]?).map (·.key)).getD (.pointer a') = .pointer a' := by
                  obtain ⟨_, e0, g1, g2⟩ := afindP_key hkt es 0 i v0 hf
                  simp only [Nat.sub_zero] at g1
                  obtain ⟨hl, rfl⟩ := List.getElem?_eq_some_iff.1 g1
                  have hl' : i < es'.size := by have := he.1; simp at this; omega
                  have := (he.2 i hl (by simpa using hl')).1
                  rw [g2] at this
                  have := this.ptrFun hix ⟨_, rfl⟩
                  simp only [Array.getElem_toList] at this
                  simp [hl', this]
                refine ⟨{ w with heap := w.heap.setIfInBounds pl.b (.map (es'.modify i fun e => { e with key := .pointer a', val := v' }) clock) }, ?_, (put _).step hr hι hown ⟨es'.modify i fun e => { e with key := .pointer a', val := v' }, by simp [hlt], ?_⟩⟩
                · simp only [Instr.mapUpdate, Sem.run_bind, run_und ht, Result.andThen_ok, hget, run_checkP hkt, run_findP hkt h1, hkey]
                  simp [Instr.keyThatStays, Instr.sameBits, hset]
                · rw [Array.toList_modify]; exact he.modify i hix hv
            · rename_i hf
              cases ha
              obtain ⟨r', h1, h2⟩ := find_asking hr hix es es'.toList 0 _ hf he
              cases r' with
              | some p => exact h2.elim
              | none =>
                refine ⟨{ w with heap := w.heap.setIfInBounds pl.b (.map (es'.push { key := .pointer a', val := v', born := clock }) (clock + 1)) }, ?_, (put _).step hr hι hown ⟨es'.push { key := .pointer a', val := v', born := clock }, by simp [hlt], ?_⟩⟩
                · simp only [Instr.mapUpdate, Sem.run_bind, run_und ht, Result.andThen_ok, hget, run_checkP hkt, run_findP hkt h1]
                  simp [hset]
                · refine ⟨by simp [he.1], fun j g1 g2 => ?_⟩
                  by_cases hj : j < es.length
                  · have := he.2 j hj (by have := he.1; simp at this ⊢; omega)
                    simp only [Array.toList_push, List.getElem_append_left hj, List.getElem_append_left (show j < es'.toList.length by have := he.1; omega)]
                    exact this
                  · have e1 : j = es.length := by simp at g1; omega
                    subst e1
                    have e2 := he.1
                    simp only [Array.toList_push]
                    rw [List.getElem_append_right (by simp), List.getElem_append_right (by omega)]
                    simp
                    exact ⟨hix, hv⟩
            · cases ha
          · cases ha
        · cases ha
      · cases ha
    · cases ha
  · exact sim_mapUpdate hr ha hm hix hv

theorem ERL.erase {es es' : List MapEntry} (h : ERL ι es es') (i : Nat) : ERL ι (es.eraseIdx i) (es'.eraseIdx i) := by
  refine ⟨by simp [List.length_eraseIdx, h.1], fun j h1 h2 => ?_⟩
  simp only [List.getElem_eraseIdx]
  have h3 := h1
  rw [List.length_eraseIdx] at h3
  have hlen := h.1
  by_cases hj : j < i
  · simp only [hj, dite_true]
    exact h.2 j (by split at h3 <;> omega) (by split at h3 <;> omega)
  · simp only [hj, dite_false]
    exact h.2 (j + 1) (by split at h3 <;> omega) (by split at h3 <;> omega)

theorem sim_delete {h : AHeap} (hr : HR ι h w) {ats : Array TypeId} {ty : TypeId} {m ix m' ix' : Value} {v : Value} {h' : AHeap} (ha : adelete P h ats m ix = some (v, h')) (hm : VR ι m m') (hix : VR ι ix ix') :
    ∃ w' v', (Builtin.delete_ ats ty #[m', ix']).run P w = .ok v' w' ∧ Step ι h w ι h' w' ∧ VR ι v v' := by
  unfold adelete at ha
  have unit : VR ι (.tuple #[]) (.tuple #[]) := .tuple _ _ rfl (fun i h1 => absurd h1 (by simp))
  split at ha
  · rename_i t r k n ht0
    split at ha
    · rename_i kt et ht
      split at ha
      · rename_i kd hkt
        split at ha
        · rename_i es clock hg
          rw [hix.int_inv]
          obtain ⟨pl, hι, rfl⟩ := hm.map_inv
          have ho := hr.obj _ _ hι
          rw [hg] at ho
          obtain ⟨es', hb, he⟩ := ho
          have hown : (h.get r).own = true := by rw [hg]; rfl
          have hlt : pl.b < w.heap.size := hr.lt _ _ hι (by rw [hg]; rfl)
          have hget : (getObj pl.b).run P w = .ok (.map es' clock) w := by simp [getObj, Sem.run, hb]
          have hset : ∀ (o : Obj), (setObj pl.b o).run P w = .ok () { w with heap := w.heap.setIfInBounds pl.b o } := fun o => by simp [setObj, Sem.run, hb]
          have put : ∀ (o : Obj), Put w { w with heap := w.heap.setIfInBounds pl.b o } pl.b := fun o =>
            ⟨by simp, fun k hk => by simp only; rw [Array.getElem?_setIfInBounds_ne (Ne.symm hk)], rfl, rfl, rfl⟩
          have e0 : (#[.map (some pl.b), .int k n] : Array Value)[0]? = some (.map (some pl.b)) := rfl
          have e1 : (#[.map (some pl.b), .int k n] : Array Value)[1]? = some (.int k n) := rfl
          split at ha
          · rename_i i v0 hf
            cases ha
            obtain ⟨r', h1, h2⟩ := find_now (kd := kd) es es'.toList 0 _ hf he
            cases r' with
            | none => exact h2.elim
            | some p =>
              obtain ⟨i', v0'⟩ := p
              obtain ⟨rfl, _⟩ := h2
              refine ⟨{ w with heap := w.heap.setIfInBounds pl.b (.map (es'.eraseIdxIfInBounds i) clock) }, _, ?_, (put _).step hr hι hown ⟨es'.eraseIdxIfInBounds i, by simp [hlt], ?_⟩, unit⟩
              · simp only [Builtin.delete_, ht0, e0, e1, Sem.run_bind, run_und ht, Result.andThen_ok, hget, run_check hkt, run_find hkt h1, hset, Sem.run_pure]
              · rw [Array.toList_eraseIdxIfInBounds]; exact he.erase i
          · rename_i hf
            cases ha
            obtain ⟨r', h1, h2⟩ := find_now (kd := kd) es es'.toList 0 _ hf he
            cases r' with
            | some p => exact h2.elim
            | none =>
              refine ⟨{ w with heap := w.heap.setIfInBounds pl.b (.map es' clock) }, _, ?_, (put _).step hr hι hown ⟨es', by simp [hlt], he⟩, unit⟩
              simp only [Builtin.delete_, ht0, e0, e1, Sem.run_bind, run_und ht, Result.andThen_ok, hget, run_check hkt, run_find hkt h1, hset, Sem.run_pure]
          · cases ha
        · cases ha
      · cases ha
    · cases ha
  · cases ha

end
end Go.AM
