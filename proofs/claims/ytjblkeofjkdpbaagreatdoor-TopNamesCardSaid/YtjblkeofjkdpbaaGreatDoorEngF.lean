/- Each operation of the evaluator is the model's: rows, append, copy, conversions. No condition. -/
import Derived.Test.YtjblkeofjkdpbaaGreatDoorEngE
namespace Go.Proofs.YtjblkeofjkdpbaaGreatDoor.Eng
open Go Go.RowKit
set_option linter.unusedVariables false
set_option linter.unusedSimpArgs false
theorem made_flat (zs : List Value) : ∀ (n : Nat), (List.range (n * zs.length)).map (fun i => zs.toArray[i % zs.length]!) = (List.replicate n zs).flatten := by
  intro n
  induction n with
  | zero => simp
  | succ n ih =>
    rw [Nat.succ_mul, Nat.add_comm, List.range_add, List.map_append, List.replicate_succ, List.flatten_cons, ← ih, List.map_map]
    congr 1
    · apply List.ext_getElem?
      intro i
      by_cases h : i < zs.length
      · simp [h, Nat.mod_eq_of_lt h]
      · simp [h]
    · apply List.map_congr_left
      intro i _
      simp
theorem madeCells_flat (z : Array Value) (n : Nat) : (madeCells z (n * z.size)).toList = (List.replicate n z.toList).flatten := by
  rw [← made_flat]
  simp [madeCells]
theorem mapV_flat (zs : List Value) : ∀ n : Nat, (List.replicate n (mapV zs)).flatten = mapV (List.replicate n zs).flatten := by
  intro n
  induction n with
  | zero => rfl
  | succ n ih => rw [List.replicate_succ, List.flatten_cons, ih, List.replicate_succ, List.flatten_cons, mapV_eq, mapV_eq, mapV_eq, List.map_append]
section
variable {P : Program} {N : Nat} {F : Nat → Prop} {g g' : G} {ι : Io} {w0 w : World}
theorem row_ok {elem : TypeId} {n size : Nat} {cells : List AV} (h : evRow P elem n = some (cells, size)) : ∃ z i, P.info? elem = some i ∧ i.zero = some z ∧ i.size = size ∧ z.cells.size = size ∧ szOf P elem = some size ∧ VRL ι cells (madeCells z.cells (n * size)).toList := by
  unfold evRow at h
  split at h
  · rename_i s zero hn hz
    split at h
    · rename_i hl
      split at h
      · rename_i cs hr
        cases h
        obtain ⟨z, i, hi, hz2, _, rfl⟩ := run_zero hz default
        have hs : i.size = size := by
          unfold szOf at hn
          simpa [hi] using hn
        have hzs : z.cells.size = size := by
          have := beq_tt hl
          rw [mapV_eq, List.length_map, Array.length_toList] at this
          exact this
        refine ⟨z, i, hi, hz2, hs, hzs, hn, ?_⟩
        rw [repL_some _ _ _ hr, mapV_flat, ← hzs, madeCells_flat]
        exact VRL_mapV _
      · cases h
    · cases h
  · cases h
theorem buildSlice_ok {t : TypeId} {len : Nat} {parts : Array (Nat × Operand)} {tm : T AV} {ρ : Operand → Value} {av : AV} (h : evBuildSlice P t len (partsA tm parts.toList) g = some (.val av g')) (hρ : ∀ x ∈ parts.toList.map (·.2), VR ι (opnd tm x) (ρ x)) (hN : g'.n ≤ N) (hF : FOK F g') (hs : Sat N F g ι w0 w) :
    Fin P N F w0 (Instr.buildSlice t len (parts.map fun (i, x) => (i, ρ x))) av g g' ι w := by
  have hps := PR_parts parts.toList hρ
  have eps : (parts.map fun (x : Nat × Operand) => (x.1, ρ x.2)).toList = parts.toList.map fun (i, x) => (i, ρ x) := by simp
  unfold evBuildSlice at h
  split at h
  · rename_i elem hu
    split at h
    · rename_i cells size hrow
      split at h
      · rename_i hle
        split at h
        · rename_i cells' hfill
          split at h
          · rename_i k g1 hnew
            cases h
            obtain ⟨z, i, hi, hz, his, hzs, hn, hv⟩ := row_ok (ι := ι) hrow
            obtain ⟨cs', h1, h2⟩ := fill_run (cs := madeCells z.cells (len * size)) hfill hv hps
            obtain ⟨ι', st, sat, hk, hle'⟩ := alloc_ok (T := elem) hnew hN hF hs h2
            refine ⟨ι', .slice (some ⟨w.heap.size, 0, none⟩) len len, _, ?_, by
              rw [VR]
              exact ⟨_, _, rfl, Nat.le_refl _, fun c' e => by cases e; rfl, .inr ⟨_, hk, fun e => by cases e⟩⟩, st, sat⟩
            have hle2 : ¬ (len * size > 2 ^ 24) := by have := Nat.le_of_ble_eq_true hle; omega
            have harr : (Array.range (len * size)).map (fun i => (if len * size = 0 then (#[] : Array Value) else z.cells)[i % (if len * size = 0 then (#[] : Array Value) else z.cells).size]!) = madeCells z.cells (len * size) := by
              by_cases e : len * size = 0
              · rw [e]; simp [madeCells]
              · rw [if_neg e]; rfl
            have hzr : (zeroValue elem).run P w = .ok z w := by simp [zeroValue, typeInfo, hi, hz]
            by_cases e : len * size = 0
            · have h1' : Instr.fill (fun i => some (i * size, size)) #[] (parts.toList.map fun (i, x) => (i, ρ x)) = some cs' := by rw [← h1, e]; simp [madeCells, Array.range_zero']
              simp only [Instr.buildSlice, Sem.run_bind, run_underlying hu, Result.andThen_ok, run_sz hn, if_neg hle2, e, if_true, Sem.run_pure, eps]
              simp only [Array.range_zero', Array.map_empty, h1', newRow, Sem.run_bind, Sem.run_pure, Result.andThen_ok]
              simp
            · simp only [Instr.buildSlice, Sem.run_bind, run_underlying hu, Result.andThen_ok, run_sz hn, if_neg hle2, if_neg e, hzr, Sem.run_pure, eps]
              have h1' := h1
              unfold madeCells at h1'
              simp only [h1', newRow, Sem.run_bind, Sem.run_pure, Result.andThen_ok]
              simp
          · cases h
        · cases h
      · cases h
    · cases h
  · cases h
theorem zero_row {ty : Nat} {ex : Bool} {z : Value} {size n : Nat} (hz : z.cells.size = size) : VRL ι (Row.cells ty ex (n * size) (mapV z.cells.toList) .nil).toL (madeCells z.cells (n * size)).toList := by
  have e : (Row.cells ty ex (n * size) (mapV z.cells.toList) .nil).toL = mapV (madeCells z.cells (n * size)).toList := by
    apply List.ext_getElem?
    intro i
    by_cases hi : i < n * size
    · have hs : 0 < size := by
        rcases Nat.eq_zero_or_pos size with e | e
        · rw [e, Nat.mul_zero] at hi; omega
        · exact e
      have hm : i % size < z.cells.size := by rw [hz]; exact Nat.mod_lt _ hs
      have hlen : (mapV z.cells.toList).length = size := by rw [mapV_eq, List.length_map, Array.length_toList, hz]
      have hc : cellAt (mapV z.cells.toList) .nil i = .v (z.cells[i % size]'hm) := by
        unfold cellAt
        rw [T.get_nil]
        dsimp only
        have e : Nat.mod i (mapV z.cells.toList).length = i % size := by rw [hlen]; rfl
        rw [getL_eq, e, mapV_eq, List.getElem?_map, Array.getElem?_toList, Array.getElem?_eq_getElem hm]
        rfl
      rw [toL_get hi, hc, mapV_eq, List.getElem?_map]
      simp only [madeCells, Array.toList_map, Array.toList_range, List.getElem?_map, List.getElem?_range hi, Option.map_some]
      have e2 : z.cells[i % z.cells.size]! = z.cells[i % size]'hm := by
        rw [hz]
        exact getElem!_pos z.cells (i % size) hm
      rw [e2]
    · rw [toL_no (by omega), List.getElem?_eq_none (by rw [mapV_eq, List.length_map, Array.length_toList]; simp [madeCells]; omega)]
  rw [e]
  exact VRL_mapV _
theorem makeSlice_ok {t : TypeId} {l c av : AV} {vl vc : Value} (h : evMakeSlice P t l c g = some (.val av g')) (hl : VR ι l vl) (hc : VR ι c vc) (hN : g'.n ≤ N) (hF : FOK F g') (hs : Sat N F g ι w0 w) :
    Fin P N F w0 (Instr.makeSlice t vl vc) av g g' ι w := by
  unfold evMakeSlice at h
  split at h
  · rename_i elem kl l kc c hu
    rw [VR] at hl
    rw [VR] at hc
    subst hl
    subst hc
    split at h
    · rename_i i hlc hcm hi
      split at h
      · rename_i hby
        split at h
        · rename_i size zero hn hz0
          split at h
          · rename_i k g1 hzl hnew
            cases h
            obtain ⟨z, i', hi', hz, _, rfl⟩ := run_zero hz0 default
            rw [hi] at hi'
            cases hi'
            have his : i.size = size := by
              unfold szOf at hn
              simpa [hi] using hn
            have hzs : z.cells.size = size := by
              have := beq_tt hzl
              rw [mapV_eq, List.length_map, Array.length_toList] at this
              exact this
            have hv := zero_row (ty := elem) (ex := true) (ι := ι) (n := c) hzs
            have hlc' := Nat.le_of_ble_eq_true hlc
            have hcm' := Nat.le_of_ble_eq_true hcm
            have hby' := Nat.le_of_ble_eq_true hby
            have hb : i.bytes * c ≤ 1024 * 1048576 := Nat.mul_le_mul hby' hcm'
            have hr := run_make (P := P) w t elem i z hu hi hz kl kc (Int.ofNat l) (Int.ofNat c) (by simp) (by simpa using hlc') (by
              have : ((i.bytes * c : Nat) : Int) ≤ 281474976710656 := by omega
              rwa [Int.natCast_mul] at this) (by simp; omega)
            simp only [Int.ofNat_eq_natCast, Int.toNat_natCast, his] at hr
            obtain ⟨ι', st, sat, hk, hle'⟩ := alloc_okR (T := elem) hnew hN hF hs hv
            refine ⟨ι', .slice (some ⟨w.heap.size, 0, none⟩) l c, _, hr, by
              rw [VR]
              exact ⟨_, _, rfl, hlc', fun c' e => by cases e; rfl, .inr ⟨_, hk, fun e => by cases e⟩⟩, ?_, ?_⟩
            · simpa using st
            · simpa using sat
          · cases h
        · cases h
      · cases h
    · cases h
  · cases h
/-! ### A slice's cells -/
theorem cell_heap {w W : World} (h : W.heap = w.heap) (a : Addr) : W.cell? a = w.cell? a := by unfold World.cell?; rw [h]
theorem cellsOf_ok {size n : Nat} {a : AV} {cs : List AV} {x : Value} (h : cellsOf size a n g = some (cs, g')) (hx : VR ι a x) (hF : FOK F g') (hs : Sat N F g ι w0 w) :
    ∃ vs : List Value, VRL ι cs vs ∧ vs.length = n * size ∧ (∀ W : World, W.heap = w.heap → (Builtin.firstCells size n x).run P W = .ok vs.toArray W) ∧ Step g g' ι ι w w ∧ Sat N F g' ι w0 w ∧ g'.H = g.H ∧ g'.n = g.n := by
  unfold cellsOf at h
  split at h
  · rename_i k off len cap sz
    split at h
    · rename_i hnl hsz
      obtain rfl : sz = size := beq_tt hsz
      split at h
      · rename_i l g1 hr
        split at h
        · rename_i cs' hc
          cases h
          rw [VR] at hx
          obtain ⟨b, c, rfl, hlc, hcap, hk⟩ := hx
          obtain ⟨h1, ⟨b', m, h2, h3⟩, st, sat, e1, e2⟩ := read_ok hr hF hs
          obtain rfl : b' = b := by
            rcases hk with hk | ⟨m', hk, _⟩
            · rw [h2] at hk; cases hk
            · rw [h2] at hk; cases hk; rfl
          obtain ⟨vs, hv, hl, hrg⟩ := h3.range (rowSlice_ok hc)
          refine ⟨vs, hv, hl, fun W hW => run_firstCells_some W sz n ⟨b', off, none⟩ len c vs hl (fun j v hj => ?_), st, sat, e1, e2⟩
          rw [cell_heap hW, Addr.add_mid]
          exact hrg j v hj
        · cases h
      · cases h
    · cases h
  · split at h
    · cases h
      rw [VR] at hx
      subst hx
      exact ⟨[], by rw [VRL], by simp, fun W _ => run_firstCells_none W _ _ _ _, Step.refl _ _ _, hs, rfl, rfl⟩
    · cases h
  · split at h
    · cases h
      rw [VR] at hx
      obtain ⟨b, c, rfl⟩ := hx
      exact ⟨[], by rw [VRL], by simp, fun W _ => run_firstCells_some W size 0 b 0 c [] (by simp) (fun j v hj => by simp at hj), Step.refl _ _ _, hs, rfl, rfl⟩
    · cases h
  · rename_i s
    split at h
    · rename_i hn hsz
      obtain rfl : size = 1 := beq_tt hsz
      cases h
      rw [VR] at hx
      subst hx
      have hn' := Nat.le_of_ble_eq_true hn
      refine ⟨_, VRL_mapV _, ?_, fun W _ => rfl, Step.refl _ _ _, hs, rfl, rfl⟩
      rw [Array.length_toList, Array.size_map, Nat.mul_one]
      show (s.extract 0 n).size = n
      rw [ByteArray.size_extract]
      omega
    · cases h
  · cases h
theorem lenOf_ok {a : AV} {m : Nat} {x : Value} (h : lenOf? a = some m) (hx : VR ι a x) (W : World) : (Builtin.lenOf x).run P W = .ok m W := by
  unfold lenOf? at h
  split at h
  · cases h
    rw [VR] at hx
    obtain ⟨b, c, rfl, _⟩ := hx
    rfl
  · cases h
    rw [VR] at hx
    subst hx
    rfl
  · cases h
    rw [VR] at hx
    obtain ⟨b, c, rfl⟩ := hx
    rfl
  · cases h
    rw [VR] at hx
    subst hx
    rfl
  · cases h
theorem src_ok {size n : Nat} {a : AV} {cs : List AV} {x : Value} {tx : TypeId} (hk : (∃ e', P.underlying tx = some (.slice e')) ∨ P.underlying tx = some .string) (hl : lenOf? a = some n) (h : cellsOf size a n g = some (cs, g')) (ho : allOne cs = true) (hx : VR ι a x) (hF : FOK F g') (hs : Sat N F g ι w0 w) :
    ∃ vs : List Value, VRL ι cs vs ∧ Src P size tx x n vs w ∧ Step g g' ι ι w w ∧ Sat N F g' ι w0 w ∧ g'.H = g.H ∧ g'.n = g.n := by
  obtain ⟨vs, h1, h2, h3, h4⟩ := cellsOf_ok (P := P) h hx hF hs
  exact ⟨vs, h1, ⟨hk, lenOf_ok hl hx, h3 w rfl, h3 w.drew rfl, h2, allOne_VRL ho h1⟩, h4⟩
/-- A new row behind a growth. -/
theorem grown_ok {k : Nat} {all : List AV} {vs : List Value} {need size cap : Nat} {z : Value} {e : TypeId} (h : g.newL e false all = some (k, g')) (hv : VRL ι all vs) (hl : vs.length = need * size) (hz : z.cells.size = size) (hc : need ≤ cap)
    (hN : g'.n ≤ N) (hF : FOK F g') (hs : Sat N F g ι w0 w) :
    ∃ ι', VR ι' (.sl k 0 need none size) (.slice (some ⟨w.heap.size, 0, none⟩) need cap) ∧ Step g g' ι ι' w (w.drew.alloc (.cells (vs.toArray ++ Builtin.zeroCells z.cells (cap - need)) e)) ∧
      Sat N F g' ι' w0 (w.drew.alloc (.cells (vs.toArray ++ Builtin.zeroCells z.cells (cap - need)) e)) := by
  have hh : (w.drew.alloc (.cells (vs.toArray ++ Builtin.zeroCells z.cells (cap - need)) e)).heap[w.heap.size]? = some (.cells (vs.toArray ++ Builtin.zeroCells z.cells (cap - need)) e) := heap_alloc_at w.drew _
  obtain ⟨ι', st, sat, hk, hle⟩ := new_ok (w' := w.drew.alloc (.cells (vs.toArray ++ Builtin.zeroCells z.cells (cap - need)) e)) h hN hF hs (BR_alloc (T := e) hv (Builtin.zeroCells z.cells (cap - need)) (0, 0) (fun _ _ => by simp) (fun e => by cases e) hh)
    (show (w.heap.push _).size = _ by simp) rfl rfl rfl (fun d hd => heap_alloc_lt w.drew _ hd)
  refine ⟨ι', ?_, st, sat⟩
  rw [VR]
  refine ⟨w.heap.size, cap, rfl, hc, (fun c' e => by cases e), .inr ⟨_, hk, fun _ => ?_⟩⟩
  rw [size_zeroCells, hl, hz, ← Nat.add_mul]
  have : need + (cap - need) = cap := by omega
  rw [this]
  omega
theorem grown_okR {k n : Nat} {p : List AV} {t : T AV} {vs : List Value} {need size cap : Nat} {z : Value} {e : TypeId} (h : g.new (.cells e false n p t) = some (k, g')) (hv : VRL ι (Row.cells e false n p t).toL vs) (hl : vs.length = need * size) (hz : z.cells.size = size) (hc : need ≤ cap)
    (hN : g'.n ≤ N) (hF : FOK F g') (hs : Sat N F g ι w0 w) :
    ∃ ι', VR ι' (.sl k 0 need none size) (.slice (some ⟨w.heap.size, 0, none⟩) need cap) ∧ Step g g' ι ι' w (w.drew.alloc (.cells (vs.toArray ++ Builtin.zeroCells z.cells (cap - need)) e)) ∧
      Sat N F g' ι' w0 (w.drew.alloc (.cells (vs.toArray ++ Builtin.zeroCells z.cells (cap - need)) e)) := by
  have hh : (w.drew.alloc (.cells (vs.toArray ++ Builtin.zeroCells z.cells (cap - need)) e)).heap[w.heap.size]? = some (.cells (vs.toArray ++ Builtin.zeroCells z.cells (cap - need)) e) := heap_alloc_at w.drew _
  obtain ⟨ι', st, sat, hk, hle⟩ := new_okX (w' := w.drew.alloc (.cells (vs.toArray ++ Builtin.zeroCells z.cells (cap - need)) e)) (m := vs.length + (Builtin.zeroCells z.cells (cap - need)).size) h hN hF hs
    (show BR ι e false (Row.cells e false n p t).toL _ w.heap.size _ from BR_alloc (T := e) hv (Builtin.zeroCells z.cells (cap - need)) (0, 0) (fun _ _ => by simp) (fun e => by cases e) hh)
    (show (w.heap.push _).size = _ by simp) rfl rfl rfl (fun d hd => heap_alloc_lt w.drew _ hd)
  refine ⟨ι', ?_, st, sat⟩
  rw [VR]
  refine ⟨w.heap.size, cap, rfl, hc, (fun c' e => by cases e), .inr ⟨_, hk, fun _ => ?_⟩⟩
  rw [size_zeroCells, hl, hz, ← Nat.add_mul]
  have : need + (cap - need) = cap := by omega
  rw [this]
  omega
/-- A row that grew. -/
theorem growRow_ok {elem size k len sz : Nat} {new : List AV} {row : Row} (h : growRow elem size k len sz new g = some (row, g')) :
    ∃ old l, g.read k = some (l, g') ∧ sz = size ∧ l.ty = elem ∧ slice? l.toL 0 (len * size) = some old ∧ cellsOf size (.sl k 0 len none sz) len g = some (old, g') ∧ (∃ m p t, row = .cells elem false m p t) ∧ row.toL = old ++ new := by
  unfold growRow at h
  split at h
  · rename_i ty ex m pat t g1 hr
    split at h
    · rename_i hsz hty hm
      split at h
      · rename_i r hra
        cases h
        obtain rfl : ty = elem := beq_tt hty
        obtain ⟨h1, h2⟩ := rowApp_ok hra
        have hm' : m = len * size := beq_tt hm
        have hsl : rowSlice (.cells ty ex m pat t) 0 (len * size) = some (cellsFrom pat t 0 (len * size)) := by
          simp only [rowSlice, Nat.zero_add]
          rw [Nat.ble_eq_true_of_le (by omega)]
        refine ⟨_, _, hr, beq_tt hsz, rfl, rowSlice_ok hsl, ?_, h1, ?_⟩
        · simp only [cellsOf, Nat.ble_eq_true_of_le (Nat.le_refl _), hsz, hr, hsl]
        · rw [h2]
          congr 1
          apply List.ext_getElem?
          intro i
          by_cases hi : i < m
          · rw [toL_get hi, cellsFrom_get _ _ _ _ _ (by omega), Nat.zero_add]
          · rw [toL_no (by omega), List.getElem?_eq_none (by rw [cellsFrom_len]; omega)]
      · cases h
    · rename_i hsz hty hm
      split at h
      · rename_i old ho
        split at h
        · rename_i all hall
          split at h
          · rename_i r hra
            cases h
            obtain rfl : ty = elem := beq_tt hty
            obtain ⟨h1, h2⟩ := rowOf_ok hra
            refine ⟨_, _, hr, beq_tt hsz, rfl, rowSlice_ok ho, ?_, h1, by rw [h2, appL_some _ _ _ hall]⟩
            simp only [cellsOf, Nat.ble_eq_true_of_le (Nat.le_refl _), hsz, hr, ho]
          · cases h
        · cases h
      · cases h
    · cases h
  · cases h
/-- A name is lost. -/
theorem kill_okW {k b m : Nat} {l : Row} {w' : World} (h : g.write k none = some g') (hs : Sat N F g ι w0 w) (h0 : g.H.get k = some l) (hk : ι k = .at_ b m)
    (hsz : w'.heap.size = w.heap.size) (hos : w'.os = w.os) (ht : w'.tape = w.tape) (hout : w'.output = w.output) (hfr : ∀ d, d ≠ b → w'.heap[d]? = w.heap[d]?) :
    ∃ ι', Step g g' ι ι' w w' ∧ Sat N F g' ι' w0 w' ∧ Le ι ι' ∧ ι' k = .dead ∧ (∀ j, j ≠ k → ι' j = ι j) ∧ g'.n = g.n ∧ Wr g' k ∧ (∀ j, g'.H.get j = if j = k then none else g.H.get j) := by
  have hkn : k < g.n := hs.dom k l h0
  obtain ⟨H, hH, e1, e2, e3, e4, e5, e6⟩ : ∃ H, T.set none fuelT g.H k = some H ∧ g'.H = H ∧ g'.n = g.n ∧ g'.thr = g.thr ∧ (∀ j ∈ g.rd, j ∈ g'.rd) ∧ (∀ j ∈ g.wr, j ∈ g'.wr) ∧ Wr g' k := by
    rw [G.write_def] at h
    unfold G.writeO at h
    split at h
    · cases h
    · rename_i H hH
      refine ⟨H, hH, ?_⟩
      split at h
      · cases h
        exact ⟨rfl, rfl, rfl, fun j hj => by simp [hj], fun j hj => by simp [hj], .inl (by simp)⟩
      · rename_i hlt
        split at h
        · cases h
          refine ⟨rfl, rfl, rfl, fun j hj => hj, fun j hj => hj, .inr ?_⟩
          rcases Nat.lt_or_ge k g.thr with e | e
          · rw [show Nat.blt k g.thr = true by simpa [Nat.blt_eq] using e] at hlt; cases hlt
          · exact e
        · cases h
  have hget := T.set_get _ _ _ _ _ hH
  let ι' : Io := fun j => if j = k then .dead else ι j
  have hle : Le ι ι' := fun j => by
    by_cases e : j = k
    · right; right; simp [ι', e]
    · right; left; simp [ι', e]
  have st : Step g g' ι ι' w w' :=
    ⟨by omega, e3, e4, e5, hle, fun j hj => by
      by_cases e : j = k
      · right; exact ⟨by simp [ι', e], by rw [e]; exact e6⟩
      · left; simp [ι', e], fun j hj => by
      show (if j = k then _ else _) = _; rw [if_neg (by omega)], fun j d m h1 h2 _ => by omega, fun j hj hw => by
      rw [e1, hget, if_neg (fun e : j = k => hw (by rw [e]; exact e6))], fun d hd hn => hfr d (fun e => by subst e; exact hn k m hkn e6 hk), by omega, hos, ht, hout⟩
  refine ⟨ι', st, ⟨fun i j d m1 m2 h1 h2 => ?_, fun i d m1 h1 => ?_, fun i h1 h2 => ?_, fun j l' hl => ?_, fun j l' hj hl => ?_, below_step hs st⟩, hle, by simp [ι'], fun j hj => by simp [ι', hj], e2, e6, fun j => by rw [e1]; exact hget j⟩
  · by_cases a1 : i = k
    · simp [ι', a1] at h1
    · by_cases a2 : j = k
      · simp [ι', a2] at h2
      · simp [ι', a1] at h1
        simp [ι', a2] at h2
        exact hs.inj _ _ _ _ _ h1 h2
  · by_cases a1 : i = k
    · simp [ι', a1] at h1
    · simp [ι', a1] at h1
      have := hs.bnd _ _ _ h1
      omega
  · show (if i = k then _ else _) = _
    rw [if_neg (by omega)]
    exact hs.un i (by omega) h2
  · rw [e1, hget] at hl
    rw [e2]
    split at hl
    · cases hl
    · exact hs.dom j l' hl
  · rw [e1, hget] at hl
    split at hl
    · cases hl
    · rename_i hne
      obtain ⟨d, m', hd, hbr⟩ := hs.rel j l' hj hl
      exact ⟨d, m', by simp [ι', hne, hd], hbr.mono hle (hfr d fun e => hne (by subst e; exact hs.inj j k _ _ _ hd hk))⟩
theorem kill_ok {k b m : Nat} {l : Row} (h : g.write k none = some g') (hs : Sat N F g ι w0 w) (h0 : g.H.get k = some l) (hk : ι k = .at_ b m) :
    ∃ ι', Step g g' ι ι' w w ∧ Sat N F g' ι' w0 w ∧ Le ι ι' ∧ ι' k = .dead ∧ (∀ j, j ≠ k → ι' j = ι j) ∧ g'.n = g.n ∧ Wr g' k ∧ (∀ j, g'.H.get j = if j = k then none else g.H.get j) :=
  kill_okW h hs h0 hk rfl rfl rfl rfl (fun _ _ => rfl)
/-- A block goes from one name to a new one, with more cells. -/
theorem move_ok {k k' b m : Nat} {l all : Row} {g1 : G} {w' : World} (h : g.write k none = some g1) (hn : g1.new all = some (k', g')) (hN : g'.n ≤ N) (hF : FOK F g') (hs : Sat N F g ι w0 w) (h0 : g.H.get k = some l) (hk : ι k = .at_ b m)
    (hb : BX ι all w' b m) (hsz : w'.heap.size = w.heap.size) (hos : w'.os = w.os) (ht : w'.tape = w.tape) (hout : w'.output = w.output) (hfr : ∀ d, d ≠ b → w'.heap[d]? = w.heap[d]?) :
    ∃ ι', Step g g' ι ι' w w' ∧ Sat N F g' ι' w0 w' ∧ ι' k' = .at_ b m := by
  have hkn : k < g.n := hs.dom k l h0
  have hbb := hs.bnd k b m hk
  obtain ⟨ι1, st1, sat1, hle1, hd1, ho1, en1, hw1, hg1⟩ := kill_ok h hs h0 hk
  obtain ⟨H, hH, rfl, rfl⟩ : ∃ H, T.set (some all) fuelT g1.H g1.n = some H ∧ k' = g1.n ∧ g' = ⟨H, g1.n + 1, g1.thr, g1.rd, g1.wr⟩ := by
    rw [G.new_def] at hn
    unfold G.newO at hn
    split at hn
    · cases hn
    · rename_i H hH
      rw [forceNat_eq] at hn
      cases hn
      exact ⟨H, hH, rfl, rfl⟩
  have hget := T.set_get _ _ _ _ _ hH
  have hun : ι1 g1.n = .un := sat1.un g1.n (Nat.le_refl _) (by simp at hN; omega)
  let ι' : Io := fun j => if j = g1.n then .at_ b m else ι1 j
  have hle2 : Le ι1 ι' := fun j => by
    by_cases e : j = g1.n
    · left; rw [e]; exact hun
    · right; left; simp [ι', e]
  have hle : Le ι ι' := hle1.tr hle2
  have st : Step g ⟨H, g1.n + 1, g1.thr, g1.rd, g1.wr⟩ ι ι' w w' := by
    refine ⟨by simp; omega, st1.thr, st1.rd, st1.wr, hle, fun j hj => ?_, fun j hj => ?_, fun j d m' h1 h2 h3 => .inr ⟨k, m', hw1, hkn, ?_⟩, fun j hj hw => ?_, fun d hd hno => hfr d (fun e => by subst e; exact hno k m hkn hw1 hk), by omega, hos, ht, hout⟩
    · have e : ι' j = ι1 j := by show (if j = g1.n then _ else _) = _; rw [if_neg (by omega)]
      rw [e]
      exact st1.old j hj
    · have e : ι' j = ι1 j := by show (if j = g1.n then _ else _) = _; rw [if_neg (by simp at hj; omega)]
      rw [e]
      exact st1.far j (by simp at hj; omega)
    · have e : j = g1.n := by simp at h2; omega
      subst e
      simp [ι'] at h3
      obtain ⟨rfl, rfl⟩ := h3
      exact hk
    · show H.get j = _
      rw [hget, if_neg (by omega)]
      exact st1.habs j hj hw
  refine ⟨ι', st, ⟨fun i j d m1 m2 h1 h2 => ?_, fun i d m1 h1 => ?_, fun i h1 h2 => ?_, fun j l' hl => ?_, fun j l' hj hl => ?_, below_step hs st⟩, by simp [ι']⟩
  · have key : ∀ i m1, i ≠ g1.n → ι' i = .at_ b m1 → False := fun i m1 hi he => by
      simp [ι', hi] at he
      by_cases e : i = k
      · rw [e, hd1] at he; cases he
      · rw [ho1 i e] at he
        exact e (hs.inj _ _ _ _ _ he hk)
    by_cases a1 : i = g1.n
    · by_cases a2 : j = g1.n
      · rw [a1, a2]
      · have hh := h1
        simp [ι', a1] at hh
        exact absurd (hh.1 ▸ h2) (fun h => key j m2 a2 h)
    · by_cases a2 : j = g1.n
      · have hh := h2
        simp [ι', a2] at hh
        exact absurd (hh.1 ▸ h1) (fun h => key i m1 a1 h)
      · simp [ι', a1] at h1
        simp [ι', a2] at h2
        exact sat1.inj _ _ _ _ _ h1 h2
  · by_cases a1 : i = g1.n
    · simp [ι', a1] at h1
      omega
    · simp [ι', a1] at h1
      have := sat1.bnd _ _ _ h1
      omega
  · show (if i = g1.n then _ else _) = _
    simp at h1
    rw [if_neg (by omega)]
    exact sat1.un i (by omega) h2
  · show j < g1.n + 1
    change H.get j = _ at hl
    rw [hget] at hl
    split at hl
    · omega
    · have := sat1.dom _ _ hl; omega
  · change H.get j = _ at hl
    rw [hget] at hl
    split at hl
    · rename_i e
      subst e
      cases hl
      exact ⟨b, m, by simp [ι'], hb.mono hle rfl⟩
    · rename_i hne
      obtain ⟨d, m', hd, hbr⟩ := sat1.rel j l' hj hl
      refine ⟨d, m', by show (if j = g1.n then _ else _) = _; rw [if_neg hne]; exact hd, hbr.mono hle2 (hfr d (fun e => ?_))⟩
      subst e
      by_cases e : j = k
      · rw [e, hd1] at hd; cases hd
      · rw [ho1 j e] at hd
        exact e (hs.inj _ _ _ _ _ hd hk)
end
end Go.Proofs.YtjblkeofjkdpbaaGreatDoor.Eng
