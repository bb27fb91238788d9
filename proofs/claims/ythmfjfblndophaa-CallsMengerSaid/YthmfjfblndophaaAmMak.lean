/- Maps whose keys are rows of numbers and bools, from which nothing is deleted: the block is told by what it holds. -/
import Derived.Test.YthmfjfblndophaaAmMap

namespace Go.AM

set_option linter.unusedSectionVars false

section
variable {κ : Type} [DecidableEq κ]

/-- The entries of a map. -/
def esOf (enc : κ → Value) (kv : List (κ × Value)) : List MapEntry := kv.zipIdx.map fun q => { key := enc q.1.1, val := q.1.2, born := q.2 }

/-- The block of a map. -/
def mpOf (enc : κ → Value) (kv : List (κ × Value)) : Blk := .mp (esOf enc kv) kv.length

def lookK : List (κ × Value) → κ → Nat → Option (Nat × Value)
  | [], _, _ => none
  | p :: kv, k, i => if k = p.1 then some (i, p.2) else lookK kv k (i + 1)

/-- What a key's entry holds. -/
def valK (kv : List (κ × Value)) (k : κ) : Option Value := (lookK kv k 0).map (·.2)

/-- An entry is written. -/
def putK (kv : List (κ × Value)) (k : κ) (v : Value) : List (κ × Value) :=
  match lookK kv k 0 with
  | some (i, _) => kv.set i (k, v)
  | none => kv ++ [(k, v)]

/-- What is needed of the keys. -/
structure Key (P : Program) (kt : TypeId) (enc : κ → Value) : Prop where
  eq : ∀ a b, eqV P 10 kt (enc a) (enc b) = some (decide (a = b))
  plain : ∀ a, plainK (enc a) = true
  ty : keyT P 10 kt = true
  bits : ∀ a, Instr.sameBits 10000 (enc a) (enc a) = true

variable {P : Program} {kt vt t : TypeId} {enc : κ → Value} {h : H} {b : Nat} {kv : List (κ × Value)} {k : κ} {R : Type}

theorem Key.isKey (q : Key P kt enc) (k : κ) : isKey P kt (enc k) = true := by
  simp [AM.isKey, q.plain, q.ty, q.eq]

theorem esOf_len (enc : κ → Value) (kv : List (κ × Value)) : (esOf enc kv).length = kv.length := by simp [esOf]

theorem esOf_get (enc : κ → Value) (kv : List (κ × Value)) (i : Nat) : (esOf enc kv)[i]? = (kv[i]?).map fun p => { key := enc p.1, val := p.2, born := i } := by
  unfold esOf
  rw [List.getElem?_map, List.getElem?_zipIdx]
  cases kv[i]? <;> simp

theorem esOf_modify {enc : κ → Value} {kv : List (κ × Value)} {i : Nat} {p p' : κ × Value} (f : MapEntry → MapEntry) (hi : kv[i]? = some p) (hf : f { key := enc p.1, val := p.2, born := i } = { key := enc p'.1, val := p'.2, born := i }) :
    (esOf enc kv).modify i f = esOf enc (kv.set i p') := by
  refine List.ext_getElem? fun i' => ?_
  rw [List.getElem?_modify, esOf_get, esOf_get, List.getElem?_set]
  have hlt := (List.getElem?_eq_some_iff.1 hi).1
  by_cases e : i = i'
  · subst e
    rw [if_pos rfl, if_pos hlt, hi]
    simp only [Option.map_some, if_true]
    exact congrArg some hf
  · simp [e]

theorem set_self {α : Type} {l : List α} {i : Nat} {x : α} (h : l[i]? = some x) : l.set i x = l := by
  refine List.ext_getElem? fun j => ?_
  rw [List.getElem?_set]
  by_cases e : i = j
  · subst e
    rw [if_pos rfl, if_pos (List.getElem?_eq_some_iff.1 h).1, h]
  · rw [if_neg e]

theorem findK_go (q : Key P kt enc) : ∀ (kv : List (κ × Value)) (i j : Nat), findK P kt (enc k) ((kv.zipIdx j).map fun q => ({ key := enc q.1.1, val := q.1.2, born := q.2 } : MapEntry)) i = some (lookK kv k i) := by
  intro kv
  induction kv with
  | nil => intro i j; rfl
  | cons p kv ih =>
    intro i j
    simp only [List.zipIdx_cons, List.map_cons, findK, lookK, q.eq, Option.bind_some]
    by_cases hk : k = p.1
    · simp [hk]
    · simp only [hk, decide_false, Bool.false_eq_true, if_false]
      exact ih (i + 1) (j + 1)

theorem findK_of (q : Key P kt enc) (kv : List (κ × Value)) : findK P kt (enc k) (esOf enc kv) 0 = some (lookK kv k 0) := findK_go q kv 0 0

theorem lookK_some : ∀ (kv : List (κ × Value)) (i : Nat) (r : Nat × Value), lookK kv k i = some r → ∃ j, r.1 = i + j ∧ kv[j]? = some (k, r.2) := by
  intro kv
  induction kv with
  | nil => intro i r h; cases h
  | cons p kv ih =>
    intro i r h
    simp only [lookK] at h
    by_cases hk : k = p.1
    · rw [if_pos hk] at h
      cases h
      exact ⟨0, rfl, by simp [hk]⟩
    · rw [if_neg hk] at h
      obtain ⟨j, h1, h2⟩ := ih (i + 1) r h
      exact ⟨j + 1, by omega, by simpa using h2⟩

theorem lookK_none : ∀ (kv : List (κ × Value)) (i : Nat), lookK kv k i = none ↔ ∀ p ∈ kv, p.1 ≠ k := by
  intro kv
  induction kv with
  | nil => intro i; simp [lookK]
  | cons p kv ih =>
    intro i
    simp only [lookK, List.mem_cons, forall_eq_or_imp]
    by_cases h : k = p.1
    · rw [if_pos h]; simp [h]
    · rw [if_neg h, ih]
      exact ⟨fun h2 => ⟨fun e => h e.symm, h2⟩, And.right⟩

theorem lok_of {z : Value} {K : Value → Option R} (q : Key P kt enc) (ht : P.underlying t = some (.map kt vt)) (hz : zero? P vt = some z) (hb : h.blk b = some (mpOf enc kv)) :
    lok P h t (.map (some b)) (enc k) true K = match valK kv k with
      | some v => K (.tuple #[v, .bool true])
      | none => K (.tuple #[z, .bool false]) := by
  unfold lok lookup valK
  simp only [ht, q.isKey, if_true, mapOf, hb, mpOf, Option.bind_some, findK_of q, hz]
  cases lookK kv k 0 <;> rfl

theorem lok_of0 {z : Value} {K : Value → Option R} (q : Key P kt enc) (ht : P.underlying t = some (.map kt vt)) (hz : zero? P vt = some z) (hb : h.blk b = some (mpOf enc kv)) :
    lok P h t (.map (some b)) (enc k) false K = K ((valK kv k).getD z) := by
  unfold lok lookup valK
  simp only [ht, q.isKey, if_true, mapOf, hb, mpOf, Option.bind_some, findK_of q, hz]
  cases lookK kv k 0 <;> rfl

theorem esOf_snoc (enc : κ → Value) (kv : List (κ × Value)) (k : κ) (v : Value) : esOf enc kv ++ [{ key := enc k, val := v, born := kv.length }] = esOf enc (kv ++ [(k, v)]) := by
  unfold esOf
  rw [List.zipIdx_append, List.map_append]
  simp

theorem mup_of {v : Value} {K : H → Option R} (q : Key P kt enc) (ht : P.underlying t = some (.map kt vt)) (hb : h.blk b = some (mpOf enc kv)) :
    mup P h t (.map (some b)) (enc k) v K = K (h.set b (mpOf enc (putK kv k v))) := by
  unfold mup mapUpdate putK
  simp only [ht, q.isKey, if_true, mapOf, hb, mpOf, Option.bind_some, findK_of q]
  cases hl : lookK kv k 0 with
  | none =>
    simp only [Option.bind_some, List.length_append, List.length_singleton]
    rw [esOf_snoc]
  | some r =>
    obtain ⟨i, v0⟩ := r
    obtain ⟨j, h1, h2⟩ := lookK_some kv 0 _ hl
    simp only [Nat.zero_add] at h1
    subst h1
    have hg := esOf_get enc kv i
    rw [h2] at hg
    simp only [hg, Option.map_some, Option.getD_some, q.bits, q.plain, Bool.and_self, if_true, Option.bind_some, List.length_set]
    rw [esOf_modify (p' := (k, v)) _ h2 rfl]

/-- The first half of a change of an entry. -/
theorem men_of {z : Value} {K : Value → H → Option R} (q : Key P kt enc) (ht : P.underlying t = some (.map kt vt)) (hz : zero? P vt = some z) (hb : h.blk b = some (mpOf enc kv)) :
    men P h t (.map (some b)) (enc k) K = match lookK kv k 0 with
      | some (i, v) => K (.tuple #[v, .int .i64 (i : Nat)]) (h.set b (mpOf enc kv))
      | none => K (.tuple #[z, .int .i64 (kv.length : Nat)]) (h.set b (mpOf enc (kv ++ [(k, z)]))) := by
  unfold men mapEntry
  simp only [ht, q.isKey, if_true, mapOf, hb, mpOf, Option.bind_some, findK_of q, hz]
  cases hl : lookK kv k 0 with
  | none =>
    simp only [Option.map_some, Option.bind_some, List.length_append, List.length_singleton]
    rw [esOf_snoc]
  | some r =>
    obtain ⟨i, v0⟩ := r
    obtain ⟨j, h1, h2⟩ := lookK_some kv 0 _ hl
    simp only [Nat.zero_add] at h1
    subst h1
    have hg := esOf_get enc kv i
    rw [h2] at hg
    simp only [hg, Option.map_some, Option.getD_some, q.bits, q.plain, Bool.and_self, if_true, Option.bind_some]
    rw [esOf_modify (p' := (k, v0)) _ h2 rfl, set_self h2]

/-- The second half. -/
theorem est_of {v : Value} {K : H → Option R} {i : Nat} {p : κ × Value} (hb : h.blk b = some (mpOf enc kv)) (hi : kv[i]? = some p) :
    est h (.map (some b)) (.int .i64 (i : Nat)) v K = K (h.set b (mpOf enc (kv.set i (p.1, v)))) := by
  have hlt := (List.getElem?_eq_some_iff.1 hi).1
  have hfi : (esOf enc kv).findIdx? (fun e => (e.born : Int) == ((i : Nat) : Int)) = some i := by
    rw [List.findIdx?_eq_some_iff_getElem]
    refine ⟨by rw [esOf_len]; exact hlt, ?_, ?_⟩
    · have := esOf_get enc kv i
      rw [hi, Option.map_some] at this
      rw [(List.getElem?_eq_some_iff.1 this).2]
      simp
    · intro j hj
      have hj2 : j < kv.length := by omega
      have := esOf_get enc kv j
      rw [List.getElem?_eq_getElem hj2, Option.map_some] at this
      rw [(List.getElem?_eq_some_iff.1 this).2]
      simp
      omega
  unfold est entryStore
  simp only [hb, mpOf, hfi, Option.map_some, Option.bind_some, List.length_set]
  rw [esOf_modify (p' := (p.1, v)) _ hi rfl]

theorem valK_put (kv : List (κ × Value)) (k k' : κ) (v : Value) : valK (putK kv k v) k' = if k' = k then some v else valK kv k' := by
  have base : ∀ (kv : List (κ × Value)) (i : Nat), (lookK (kv ++ [(k, v)]) k' i).map (·.2) = ((lookK kv k' i).map (·.2)).or (if k' = k then some v else none) := by
    intro kv
    induction kv with
    | nil => intro i; simp only [List.nil_append, lookK]; by_cases h : k' = k <;> simp [h]
    | cons p kv ih =>
      intro i
      simp only [List.cons_append, lookK]
      by_cases h : k' = p.1
      · simp [h]
      · rw [if_neg h, if_neg h]; exact ih (i + 1)
  have rest : ∀ (kv : List (κ × Value)) (i j : Nat) (v0 : Value), lookK kv k i = some (i + j, v0) → (lookK (kv.set j (k, v)) k' i).map (·.2) = if k' = k then some v else (lookK kv k' i).map (·.2) := by
    intro kv
    induction kv with
    | nil => intro i j v0 h; cases h
    | cons p kv ih =>
      intro i j v0 h
      simp only [lookK] at h
      by_cases hk : k = p.1
      · rw [if_pos hk] at h
        simp only [Option.some.injEq, Prod.mk.injEq] at h
        obtain rfl : j = 0 := by omega
        simp only [List.set_cons_zero, lookK]
        by_cases e : k' = k
        · rw [if_pos e, if_pos e]; rfl
        · rw [if_neg e, if_neg e, if_neg (by rw [← hk]; exact e)]
      · rw [if_neg hk] at h
        cases j with
        | zero =>
          obtain ⟨j, h1, _⟩ := lookK_some kv (i + 1) _ h
          simp only at h1
          omega
        | succ j =>
          simp only [List.set_cons_succ, lookK]
          have := ih (i + 1) j v0 (by rw [h]; congr 2; omega)
          by_cases e : k' = p.1
          · rw [if_pos e, if_pos e, if_neg (by rw [e]; exact Ne.symm hk)]
          · rw [if_neg e, if_neg e]; exact this
  unfold valK putK
  cases hl : lookK kv k 0 with
  | none =>
    simp only
    rw [base]
    by_cases e : k' = k
    · subst e; rw [hl]; simp
    · simp [e]
  | some r =>
    obtain ⟨i, v0⟩ := r
    exact rest kv 0 i v0 (by rw [hl]; simp)

end
end Go.AM
