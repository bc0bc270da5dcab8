/- Maps: reading and writing. -/
import Derived.Test.YtcgmelealalhhaaGreatDoorAlMap
import Derived.MapKept
import Derived.RangeFuncRecord
namespace Go.Al
variable {P : Program} {S : Nat → Prop} {w : World} {b : Nat} {κ : Ty} {ka : Bool} {τ : Ty} {va : Bool} {xs : List (den κ × den τ)} {ty kt et : TypeId}
theorem run_look (ht : P.underlying ty = some (.map kt et)) (K : KeyOk P kt κ ka) (h : MpRel S w b κ ka τ va xs) {z : Value} (hz : (zeroValue et).run P w = .ok z w) (k : den κ) (d : den τ) (c : Bool) :
  ∃ v, (Instr.lookup ty (.map (some b)) (oneV ka (kv κ k)) c).run P w = .ok (if c = true then .tuple #[v, .bool (mhas κ k xs)] else v) w ∧
   ((mhas κ k xs = true ∧ ∃ us, Rep S w τ (mget κ k d xs) us ∧ v = oneV va us) ∨ (mhas κ k xs = false ∧ mget κ k d xs = d ∧ v = z)) := by
 obtain ⟨es, h1, h2, h3⟩ := h
 have hkeys := MpRel.keys h2 h3
 have hf := K.find w k (den τ) xs es.toList hkeys
 obtain ⟨m1, m2⟩ := midx_spec k xs
 have mg := mget_spec k d xs
 cases hm : mhas κ k xs with
 | true =>
  obtain ⟨v, hv⟩ := m1 hm
  obtain ⟨hlt, hv'⟩ := List.getElem?_eq_some_iff.1 hv
  obtain ⟨e, us, q1, _, _, q4, q5⟩ := h3 _ hlt
  rw [hv] at mg
  rw [hv'] at q4
  have hg : es.toList[midx κ k xs]? = some e := by simpa using q1
  rw [hg] at hf
  refine ⟨e.val, ?_, .inl ⟨rfl, us, ?_, q5⟩⟩
  ·cases c <;> simp [Instr.lookup, run_underlying ht, MapKept.run_getObj_map h1, K.check, hf, Result.andThen]
  ·rw [mg]; exact q4
 | false =>
  have hi := m2 hm
  have hg : es.toList[midx κ k xs]? = none := by rw [hi]; simp [h2]
  have hgx : xs[midx κ k xs]? = none := by rw [hi]; simp
  rw [hg] at hf
  rw [hgx] at mg
  refine ⟨z, ?_, .inr ⟨rfl, mg, rfl⟩⟩
  cases c <;> simp [Instr.lookup, run_underlying ht, MapKept.run_getObj_map h1, K.check, hf, hz, Result.andThen]
theorem run_put (ht : P.underlying ty = some (.map kt et)) (K : KeyOk P kt κ ka) (h : MpRel S w b κ ka τ va xs) (hS : ¬ S b) (k : den κ) (x : den τ) {us : List Value} (hx : Rep S w τ x us) :
  ∃ w', (Instr.mapUpdate ty (.map (some b)) (oneV ka (kv κ k)) (oneV va us)).run P w = .ok () w' ∧ (∃ o, w' = w.putObj b o) ∧ MpRel S w' b κ ka τ va (mput κ k x xs) := by
 obtain ⟨es, h1, h2, h3⟩ := h
 have hb : b < w.heap.size := (Array.getElem?_eq_some_iff.1 h1).1
 have hkeys := MpRel.keys h2 h3
 have hf := K.find w k (den τ) xs es.toList hkeys
 obtain ⟨m1, m2⟩ := midx_spec k xs
 have hkeep : ∀ (o : Go.Obj) (y : den τ) vs, Rep S w τ y vs → Rep S (w.putObj b o) τ y vs := fun o y vs hr => hr.mono (fun _ h => h) fun c hc => World.putObj_heap_other fun (e : c = b) => hS (e ▸ hc)
 rw [mput_spec]
 cases hm : mhas κ k xs with
 | true =>
  obtain ⟨v, hv⟩ := m1 hm
  obtain ⟨hlt, hv'⟩ := List.getElem?_eq_some_iff.1 hv
  obtain ⟨e, us0, q1, q2, q3, _, _⟩ := h3 _ hlt
  rw [hv'] at q3
  have hg : es.toList[midx κ k xs]? = some e := by simpa using q1
  rw [hg] at hf
  have hst := K.stays w k
  rw [if_pos rfl]
  refine ⟨w.putObj b (.map (es.modify (midx κ k xs) fun e => { e with key := oneV ka (kv κ k), val := oneV va us }) es.size), ?_, ⟨_, rfl⟩, es.modify (midx κ k xs) fun e => { e with key := oneV ka (kv κ k), val := oneV va us }, ?_, by simp [h2], fun i hi => ?_⟩
  ·have q1' : es[midx κ k xs]? = some e := q1
   simp [Instr.mapUpdate, run_underlying ht, MapKept.run_getObj_map h1, K.check, hf, q1', q3, hst, MapKept.run_setObj_map _ h1, Result.andThen, World.putObj]
  ·rw [World.putObj_heap_same hb]; simp
  ·have hi' : i < xs.length := by simpa using hi
   obtain ⟨e', us', r1, r2, r3, r4, r5⟩ := h3 i hi'
   by_cases hij : midx κ k xs = i
   ·subst hij
    refine ⟨{ e' with key := oneV ka (kv κ k), val := oneV va us }, us, by simp [Array.getElem?_modify, r1], r2, by simp, ?_, rfl⟩
    simpa using hkeep _ x us hx
   ·refine ⟨e', us', by simp [Array.getElem?_modify, hij, r1], r2, ?_, ?_, r5⟩
    ·rw [List.getElem_set_ne hij]; exact r3
    ·rw [List.getElem_set_ne hij]; exact hkeep _ _ _ r4
 | false =>
  have hi := m2 hm
  have hg : es.toList[midx κ k xs]? = none := by rw [hi]; simp [h2]
  rw [hg] at hf
  rw [if_neg (by simp)]
  refine ⟨w.putObj b (.map (es.push ⟨oneV ka (kv κ k), oneV va us, es.size⟩) (es.size + 1)), ?_, ⟨_, rfl⟩, es.push ⟨oneV ka (kv κ k), oneV va us, es.size⟩, ?_, by simp [h2], fun i hi => ?_⟩
  ·simp [Instr.mapUpdate, run_underlying ht, MapKept.run_getObj_map h1, K.check, hf, MapKept.run_setObj_map _ h1, Result.andThen, World.putObj]
  ·rw [World.putObj_heap_same hb]; simp
  ·by_cases hij : i < xs.length
   ·obtain ⟨e', us', r1, r2, r3, r4, r5⟩ := h3 i hij
    have hi2 : i < es.size := by omega
    refine ⟨e', us', ?_, r2, ?_, ?_, r5⟩
    ·rw [Array.getElem?_push, if_neg (by omega)]; exact r1
    ·rw [List.getElem_append_left hij]; exact r3
    ·rw [List.getElem_append_left hij]; exact hkeep _ _ _ r4
   ·have hi3 : i = xs.length := by simp at hi; omega
    subst hi3
    refine ⟨⟨oneV ka (kv κ k), oneV va us, es.size⟩, us, ?_, h2, ?_, ?_, rfl⟩
    ·rw [Array.getElem?_push, if_pos h2.symm]
    ·simp
    ·simpa using hkeep _ x us hx
end Go.Al
