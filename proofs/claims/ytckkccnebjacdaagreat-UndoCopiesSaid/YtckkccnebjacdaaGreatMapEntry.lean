/-
  m[k]++: a map's entry found (or laid), and stored into.
-/
import Derived.Test.YtckkccnebjacdaaGreatMgOwn
namespace Go.Proofs.YtckkccnebjacdaaGreat
open Go.RowKit
set_option linter.unusedSectionVars false
set_option linter.unusedVariables false
set_option linter.unusedSimpArgs false

section heap
variable {K V : Type} [DecidableEq K]
/-- The map, and the stamp of one key's entry. -/
def EntryAt (w : World) (m : Nat) (ek : K → Value) (ev : V → Value) (l : List (K × V)) (k : K) (born : Nat) : Prop :=
  MapAt w m ek ev l ∧ ∃ es clock, w.heap[m]? = some (.map es clock) ∧ ∃ i e, es.toList[i]? = some e ∧ e.born = born ∧ (l.map (·.1)).findIdx? (fun x => decide (x = k)) = some i

theorem EntryAt.kept {F : Nat → Prop} {w w' : World} {m : Nat} {ek : K → Value} {ev : V → Value} {l : List (K × V)} {k : K} {born : Nat} (h : EntryAt w m ek ev l k born) (f : Fr F w w') (hn : ¬ F m) : EntryAt w' m ek ev l k born := by
  obtain ⟨h1, es, c, hb, r⟩ := h
  exact ⟨h1.kept f hn, es, c, (f.block m h1.lt hn).trans hb, r⟩

theorem findIdx_push {l : List (K × V)} {k : K} {v : V} (h : (l.map (·.1)).findIdx? (fun x => decide (x = k)) = none) : ((kvPut l k v).map (·.1)).findIdx? (fun x => decide (x = k)) = some l.length := by
  induction l with
  | nil => simp [kvPut]
  | cons p r ih =>
    rw [List.map_cons, List.findIdx?_cons] at h
    by_cases hk : p.1 = k
    · simp [hk] at h
    · simp only [hk, decide_false, Bool.false_eq_true, if_false, Option.map_eq_none_iff] at h
      unfold kvPut
      rw [if_neg hk, List.map_cons, List.findIdx?_cons]
      simp [hk, ih h]
theorem findIdx_put {l : List (K × V)} {k : K} {v : V} {i : Nat} (h : (l.map (·.1)).findIdx? (fun x => decide (x = k)) = some i) : ((kvPut l k v).map (·.1)).findIdx? (fun x => decide (x = k)) = some i := by
  have hs : (kvGet l k).isSome = true := by rw [← findIdx_get, h]; rfl
  rw [kvPut_keys, if_pos hs]; exact h
theorem kvPut_same {l : List (K × V)} {k : K} {v : V} (h : kvGet l k = some v) : kvPut l k v = l := by
  induction l with
  | nil => simp [kvGet_nil] at h
  | cons p r ih =>
    rw [kvGet_cons] at h
    unfold kvPut
    by_cases hk : p.1 = k
    · rw [if_pos hk] at h ⊢
      simp at h; subst h; subst hk; rfl
    · rw [if_neg hk] at h ⊢
      rw [ih h]

theorem run_entry_at {P : Program} {w : World} {m : Nat} {ek : K → Value} {ev : V → Value} {l : List (K × V)} (h : MapAt w m ek ev l) {t kt et : TypeId} (ht : P.underlying t = some (.map kt et)) (KT : KeyT P kt ek) (k : K) (v0 : V) (hz : ∀ w, (zeroValue et).run P w = .ok (ev v0) w) :
    ∃ w' born, (Instr.mapEntry t (.map (some m)) (ek k)).run P w = .ok (.tuple #[ev ((kvGet l k).getD v0), goInt (born : Nat)]) w' ∧ EntryAt w' m ek ev (kvPut l k ((kvGet l k).getD v0)) k born ∧ Fr (one m) w w' := by
  have hlt := h.lt
  have h0 := h
  obtain ⟨es, clock, hb, hkv, hborn, hnd, hkn⟩ := h
  have hf := KT.find k es.toList (l.map (·.1)) (zip_of_map hkv).1 w
  have hc := KT.check false k w
  have hobj : (getObj m).run P w = .ok (.map es clock) w := by simp [getObj, Sem.run, hb]
  have hset : ∀ o, (setObj m o).run P w = .ok () { w with heap := w.heap.setIfInBounds m o } := by intro o; simp [setObj, Sem.run, hb]
  have hheap : ∀ o, ({ w with heap := w.heap.setIfInBounds m o } : World).heap[m]? = some o := by
    intro o; simp [Array.getElem?_setIfInBounds, hlt]
  have hlen : es.toList.length = l.length := by
    have := congrArg List.length hkv; simpa using this
  unfold Instr.mapEntry
  simp only [Sem.run_bind, run_underlying ht, Result.andThen_ok, hobj, hc, hf]
  cases hi : (l.map (·.1)).findIdx? (fun x => decide (x = k)) with
  | none =>
    have hn : kvGet l k = none := by
      have := findIdx_get (l := l) (k := k); rw [hi] at this
      cases hh : kvGet l k with
      | none => rfl
      | some _ => rw [hh] at this; simp at this
    simp only [hn, Option.getD_none, Option.bind_none]
    refine ⟨_, clock, ?_, ⟨⟨_, _, hheap (.map (es.push { key := ek k, val := ev v0, born := clock }) (clock + 1)), ?_, ?_, ?_, kvPut_nodup hkn k v0⟩, _, _, hheap _, l.length, { key := ek k, val := ev v0, born := clock }, ?_, rfl, findIdx_push hi⟩, Fr.setObj _ rfl⟩
    · simp [hset, hz, Sem.run_bind, Result.andThen]
    · rw [Array.toList_push]; exact put_push hkv k v0 clock hn
    · intro e he
      rw [Array.toList_push, List.mem_append] at he
      rcases he with he | he
      · have := hborn e he; omega
      · simp at he; subst he; simp
    · rw [Array.toList_push, List.map_append, List.nodup_append]
      refine ⟨hnd, by simp, ?_⟩
      intro a ha b hb' e
      simp at hb'
      obtain ⟨x, hx, rfl⟩ := List.mem_map.1 ha
      have := hborn x hx; omega
    · rw [Array.toList_push, ← hlen, List.getElem?_concat_length]
  | some i =>
    have hil := findIdx_lt hi
    obtain ⟨e0, he0⟩ : ∃ e0, es.toList[i]? = some e0 := by
      rw [List.getElem?_eq_some_iff.2 ⟨by rw [hlen]; simpa using hil.1, rfl⟩]; exact ⟨_, rfl⟩
    have he0' : es[i]? = some e0 := by rw [← Array.getElem?_toList]; exact he0
    have hg := find_get hkv k
    rw [hi] at hg
    simp only [Option.bind_some, he0, Option.map_some] at hg
    cases hv : kvGet l k with
    | none => rw [hv] at hg; simp at hg
    | some v =>
      rw [hv] at hg
      simp only [Option.map_some, Option.some.injEq] at hg
      have hpm := put_modify hkv k v i e0 hi he0
      have hsame : (es.toList.modify i fun (e : MapEntry) => { e with key := ek k, val := ev v }) = (es.modify i fun (e : MapEntry) => { e with key := ek k }).toList := by
        rw [Array.toList_modify]
        apply List.ext_getElem?
        intro j
        rw [List.getElem?_modify, List.getElem?_modify]
        by_cases e : i = j
        · subst e; rw [he0]; simp [hg]
        · simp [e]
      simp only [Option.getD_some, Option.bind_some, he0, Option.map_some]
      refine ⟨_, e0.born, ?_, ⟨⟨_, _, hheap (.map (es.modify i fun (e : MapEntry) => { e with key := ek k }) clock), ?_, ?_, ?_, kvPut_nodup hkn k v⟩, _, _, hheap _, i, { e0 with key := ek k }, ?_, rfl, findIdx_put hi⟩, Fr.setObj _ rfl⟩
      · simp [he0, he0', Instr.keyThatStays, hpm.2.2, KT.same, hset, Sem.run_bind, Result.andThen, hg]
      · rw [← hsame]; exact hpm.1
      · intro e he
        rw [Array.toList_modify] at he
        obtain ⟨j, hj, rfl⟩ := List.getElem_of_mem he
        rw [List.getElem_modify]
        have hj' : j < es.toList.length := by simpa using hj
        split
        · exact hborn (es.toList[j]'hj') (List.getElem_mem hj')
        · exact hborn (es.toList[j]'hj') (List.getElem_mem hj')
      · rw [modify_map es i (fun (e : MapEntry) => { e with key := ek k }) (·.born) (fun _ => rfl)]; exact hnd
      · rw [Array.toList_modify, List.getElem?_modify, he0]; simp

theorem nodup_find {es : List MapEntry} (hnd : (es.map (·.born)).Nodup) {i : Nat} {e : MapEntry} (he : es[i]? = some e) : es.findIdx? (fun x => ((x.born : Nat) : Int) == (e.born : Int)) = some i := by
  induction es generalizing i with
  | nil => simp at he
  | cons x r ih =>
    rw [List.map_cons, List.nodup_cons] at hnd
    rw [List.findIdx?_cons]
    cases i with
    | zero => simp at he; subst he; simp
    | succ i =>
      simp only [List.getElem?_cons_succ] at he
      have hne : x.born ≠ e.born := by
        intro q; exact hnd.1 (q ▸ List.mem_map.2 ⟨e, List.mem_of_getElem? he, rfl⟩)
      have hb : (((x.born : Nat) : Int) == (e.born : Int)) = false := beq_eq_false_iff_ne.2 (by omega)
      rw [hb]
      simp [ih hnd.2 he]

theorem run_store_entry {P : Program} {w : World} {m : Nat} {ek : K → Value} {ev : V → Value} {l : List (K × V)} {k : K} {born : Nat} (h : EntryAt w m ek ev l k born) (t : TypeId) (v : V) :
    ∃ w', (Instr.entryStore t (.map (some m)) (goInt (born : Nat)) (ev v)).run P w = .ok () w' ∧ MapAt w' m ek ev (kvPut l k v) ∧ Fr (one m) w w' := by
  obtain ⟨h1, es', clock', hb', i, e, he, hbn, hi⟩ := h
  have hlt := h1.lt
  obtain ⟨es, clock, hb, hkv, hborn, hnd, hkn⟩ := h1
  rw [hb] at hb'
  simp only [Option.some.injEq, Obj.map.injEq] at hb'
  obtain ⟨rfl, rfl⟩ := hb'
  have hobj : (getObj m).run P w = .ok (.map es clock) w := by simp [getObj, Sem.run, hb]
  have hset : ∀ o, (setObj m o).run P w = .ok () { w with heap := w.heap.setIfInBounds m o } := by intro o; simp [setObj, Sem.run, hb]
  have hheap : ∀ o, ({ w with heap := w.heap.setIfInBounds m o } : World).heap[m]? = some o := by
    intro o; simp [Array.getElem?_setIfInBounds, hlt]
  have hpm := put_modify hkv k v i e hi he
  have hfi : es.findIdx? (fun x => ((x.born : Nat) : Int) == (born : Int)) = some i := by
    rw [← hbn]
    have := nodup_find hnd he
    rw [← this, ← List.findIdx?_toArray]
  have hsame : (es.toList.modify i fun (e : MapEntry) => { e with key := ek k, val := ev v }) = (es.modify i fun (e : MapEntry) => { e with val := ev v }).toList := by
    rw [Array.toList_modify]
    apply List.ext_getElem?
    intro j
    rw [List.getElem?_modify, List.getElem?_modify]
    by_cases q : i = j
    · subst q; rw [he]; simp [hpm.2.2]
    · simp [q]
  refine ⟨_, ?_, ⟨_, _, hheap (.map (es.modify i fun (e : MapEntry) => { e with val := ev v }) clock), ?_, ?_, ?_, kvPut_nodup hkn k v⟩, Fr.setObj _ rfl⟩
  · unfold Instr.entryStore
    simp [Sem.run_bind, hobj, goInt, hfi, hset, Result.andThen, asInt, asIntOf]
  · rw [← hsame]; exact hpm.1
  · intro x hx
    rw [Array.toList_modify] at hx
    obtain ⟨j, hj, rfl⟩ := List.getElem_of_mem hx
    rw [List.getElem_modify]
    have hj' : j < es.toList.length := by simpa using hj
    split
    · exact hborn (es.toList[j]'hj') (List.getElem_mem hj')
    · exact hborn (es.toList[j]'hj') (List.getElem_mem hj')
  · rw [modify_map es i (fun (e : MapEntry) => { e with val := ev v }) (·.born) (fun _ => rfl)]; exact hnd
end heap

section arms
variable {K V : Type} [DecidableEq K] {P : Program} {w : World} {ops : Array Oper} {rest : List Oper} {o : Oper} {a : Act} {Q : Exit → Act → World → Prop} {m : Nat} {ek : K → Value} {ev : V → Value} {l : List (K × V)}
theorem wpMapEntry (hg : Region.wanted o (yielded ops a.tmps) = true) (mo xo : Operand) (t : TypeId) (hop : o.op = Op.mapEntry t mo xo) (kt et : TypeId) (h : MapAt w m ek ev l) (ht : P.underlying t = some (.map kt et)) (KT : KeyT P kt ek) (k : K) (v0 : V) (hz : ∀ w, (zeroValue et).run P w = .ok (ev v0) w)
    (hm : a.eval mo = .map (some m)) (hx : a.eval xo = ek k)
    (hK : ∀ w' born, EntryAt w' m ek ev (kvPut l k ((kvGet l k).getD v0)) k born → Fr (one m) w w' → wpList P ops Q rest (a.put o.dst (.tuple #[ev ((kvGet l k).getD v0), goInt (born : Nat)])) w') : wpList P ops Q (o :: rest) a w := by
  refine wpList_go hg fun K' hK' => ?_
  obtain ⟨w', born, hrun, r1, r2⟩ := run_entry_at h ht KT k v0 hz
  unfold Oper.wp
  simp [execOp, hop, hm, hx, hrun, Result.andThen]
  exact hK' _ _ (hK w' born r1 r2)
theorem wpEntryStore (hg : Region.wanted o (yielded ops a.tmps) = true) (mo so xo : Operand) (t : TypeId) (hop : o.op = Op.entryStore t mo so xo) {k : K} {born : Nat} (h : EntryAt w m ek ev l k born) (v : V)
    (hm : a.eval mo = .map (some m)) (hs : a.eval so = goInt (born : Nat)) (hx : a.eval xo = ev v)
    (hK : ∀ w', MapAt w' m ek ev (kvPut l k v) → Fr (one m) w w' → wpList P ops Q rest (a.put o.dst undef) w') : wpList P ops Q (o :: rest) a w := by
  refine wpList_go hg fun K' hK' => ?_
  obtain ⟨w', hrun, r1, r2⟩ := run_store_entry (P := P) h t v
  unfold Oper.wp
  simp [execOp, hop, hm, hs, hx, hrun, Result.andThen]
  exact hK' _ _ (hK w' r1 r2)
end arms
end Go.Proofs.YtckkccnebjacdaaGreat
