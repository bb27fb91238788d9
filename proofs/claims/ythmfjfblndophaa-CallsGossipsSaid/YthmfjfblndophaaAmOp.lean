/- An operation, as a whole. -/
import Derived.Test.YthmfjfblndophaaAmMap
namespace Go.AM

/-- What a heap may have become. -/
def Grow (h h' : H) : Prop := h.nx ≤ h'.nx ∧ h.wr ≤ h'.wr ∧ (h'.wr = h.wr → ∀ b, b < h.nx → h'.blk b = h.blk b)

theorem Grow.refl (h : H) : Grow h h := ⟨Nat.le_refl _, Nat.le_refl _, fun _ _ _ => rfl⟩

theorem Grow.trans {a b c : H} (p : Grow a b) (q : Grow b c) : Grow a c :=
  ⟨Nat.le_trans p.1 q.1, Nat.le_trans p.2.1 q.2.1, fun e i hi => by
    have e1 : b.wr = a.wr := by have := p.2.1; have := q.2.1; omega
    have e2 : c.wr = b.wr := by omega
    rw [q.2.2 e2 i (Nat.lt_of_lt_of_le hi p.1), p.2.2 e1 i hi]⟩

theorem Grow.new (h : H) (k : Blk) : Grow h (h.new k) :=
  ⟨by simp [H.new], Nat.le_refl _, fun _ b hb => by simp only [H.new]; rw [if_neg (by omega)]⟩

theorem Grow.set (h : H) (b : Nat) (k : Blk) : Grow h (h.set b k) :=
  ⟨Nat.le_refl _, by simp [H.set], fun e => by simp [H.set] at e⟩

theorem Grow.killNew (h : H) (b : Nat) (k : Blk) : Grow h ((h.kill b).new k) :=
  ⟨by simp [H.new, H.kill], by simp [H.new, H.kill], fun e => by simp [H.new, H.kill] at e⟩

section
variable {P : Program} {E : Env}

structure SoundR (P : Program) (E : Env) (rec : Rec) : Prop where
  fn : ∀ f args h v h', rec f args h = some (v, h') → ∃ fn c, P.funcs[f]? = some fn ∧ fn.body = some c ∧ fn.name ≠ "runtime.NumGoroutine"
  grow : ∀ f args h v h', rec f args h = some (v, h') → Grow h h'
  calls : ∀ f args h v h', rec f args h = some (v, h') → ∀ ι w args', Rel P E ι h w → AR ι h.nx args args' →
    Calls P f args' w fun e w' => ∃ v' ι', e = .returned v' ∧ Tr ι h w ι' h' w' ∧ Rel P E ι' h' w' ∧ VR ι' h'.nx v v'

theorem append_grows {tys : List TypeId} {s x v : Value} {h h' : H} (ha : append P tys s x h = some (v, h')) : Grow h h' := by
  unfold append at ha
  split at ha
  · split at ha
    · obtain ⟨i, hi, ha1⟩ := bind_some ha
      clear ha
      obtain ⟨z, hz, ha2⟩ := bind_some ha1
      clear ha1
      obtain ⟨k, hk, ha3⟩ := bind_some ha2
      clear ha2
      obtain ⟨xs, hxs, ha⟩ := bind_some ha3
      clear ha3
      split at ha
      · split at ha
        · split at ha
          · cases ha; exact .refl _
          · split at ha
            · cases ha; exact .new _ _
            · cases ha
        · split at ha
          · cases ha; exact .refl _
          · split at ha
            · split at ha
              · split at ha
                · cases ha; exact .set _ _ _
                · cases ha
              · cases ha
            · split at ha
              · split at ha
                · obtain ⟨old, ho, hb⟩ := bind_some ha
                  cases hb; exact .new _ _
                · split at ha
                  · split at ha
                    · cases ha; exact .killNew _ _ _
                    · cases ha
                  · cases ha
              · cases ha
        · cases ha
      · cases ha
    · cases ha
  · cases ha

theorem builtin_grows {b : Builtin} {tys : List TypeId} {args : List Value} {v : Value} {h h' : H} (ha : builtin P b tys args h = some (v, h')) : Grow h h' := by
  unfold builtin at ha
  split at ha
  · exact append_grows ha
  · split at ha
    · cases ha; exact .refl _
    · cases ha; exact .refl _
    · split at ha
      · cases ha; exact .refl _
      · cases ha
    · cases ha
  · obtain ⟨_, _, hb⟩ := map_some ha; cases hb; exact .refl _
  · obtain ⟨_, _, hb⟩ := map_some ha; cases hb; exact .refl _
  · cases ha

theorem op_grows {rec : Rec} (hrec : SoundR P E rec) {t : Array Value} {o : Oper} {h h' : H} {v : Value} (ho : op P E rec t o h = some (v, h')) : Grow h h' := by
  have pure : ∀ {x : Option Value}, x.map (fun v => (v, h)) = some (v, h') → Grow h h' := by
    intro x hx
    obtain ⟨_, _, hb⟩ := map_some hx
    cases hb
    exact .refl _
  unfold op at ho
  split at ho
  · cases ho
  · simp only at ho
    split at ho
    all_goals try (cases ho; exact .refl _; done)
    all_goals try (exact pure ho; done)
    · split at ho
      · cases ho; exact .refl _
      · cases ho; exact .refl _
      · cases ho
    · obtain ⟨_, _, hb⟩ := map_some ho; cases hb; exact .new _ _
    · obtain ⟨_, _, hb⟩ := map_some ho; cases hb; exact .new _ _
    · unfold buildSlice at ho
      split at ho
      · obtain ⟨_, _, hb⟩ := bind_some ho
        obtain ⟨_, _, hb⟩ := bind_some hb
        split at hb
        · obtain ⟨_, _, hb⟩ := map_some hb; cases hb; exact .new _ _
        · cases hb
      · cases ho
    · obtain ⟨h1, hs, hb⟩ := map_some ho
      cases hb
      unfold store at hs
      split at hs
      · split at hs
        · split at hs
          · cases hs; exact .set _ _ _
          · cases hs
        · cases hs
      · cases hs
    · split at ho
      · cases ho; exact .refl _
      · cases ho; exact .refl _
      · cases ho
    · split at ho
      · cases ho; exact .refl _
      · cases ho
    · unfold makeMap at ho
      split at ho
      · cases ho; exact .new _ _
      · cases ho
    · unfold makeSlice at ho
      split at ho
      · obtain ⟨_, _, hb⟩ := bind_some ho
        obtain ⟨_, _, hb⟩ := bind_some hb
        split at hb
        · cases hb; exact .new _ _
        · cases hb
      · cases ho
    · obtain ⟨h1, hs, hb⟩ := map_some ho
      cases hb
      unfold mapUpdate at hs
      split at hs
      · split at hs
        · obtain ⟨⟨_, _⟩, _, hb⟩ := bind_some hs
          obtain ⟨_, _, hb⟩ := bind_some hb
          split at hb
          · split at hb
            · cases hb; exact .set _ _ _
            · cases hb
          · cases hb; exact .set _ _ _
        · cases hs
      · cases hs
    · split at ho
      · exact pure ho
      · cases ho
    · split at ho
      · exact builtin_grows ho
      · unfold callV at ho
        split at ho
        · exact hrec.grow _ _ _ _ _ ho
        · cases ho
      · cases ho
    · cases ho

end
end Go.AM
