/- Maps: how their operations are written in a walk, and maps that stand for sets and for functions. -/
import Derived.Test.YtaegjihmpgdfcaaExU
set_option linter.unusedVariables false
set_option linter.unusedSimpArgs false
namespace Go.Ex
variable {P : Program} {s : St} {x y z : X} {K : V → Hp → Nat → Option (List Nat) → Option (List Nat) → Prop}
def noEv : X → V := X.ev fun _ => .junk
def msetK (kt : Option IntKind) (m k v : V) (h : Hp) (nx : Nat) (K : V → Hp → Nat → Option (List Nat) → Option (List Nat) → Prop) (_ : Hold K) : Prop := resK (opA (.mset kt (.c m) (.c k) (.c v)) noEv h nx) K ⟨⟩
def mgetK (ok : Bool) (kt : Option IntKind) (zero m k : V) (h : Hp) (nx : Nat) (K : V → Hp → Nat → Option (List Nat) → Option (List Nat) → Prop) (_ : Hold K) : Prop := resK (opA (.mget ok kt zero (.c m) (.c k)) noEv h nx) K ⟨⟩
def mlenK (m : V) (h : Hp) (nx : Nat) (K : V → Hp → Nat → Option (List Nat) → Option (List Nat) → Prop) (_ : Hold K) : Prop := resK (opA (.mlen (.c m)) noEv h nx) K ⟨⟩
@[simp] theorem step_mset {kt : Option IntKind} : SI P (.mset kt x y z) s K ⟨⟩ ⟨⟩ = msetK kt (X.ev s.t x) (X.ev s.t y) (X.ev s.t z) s.h s.nx K ⟨⟩ := _root_.id rfl
@[simp] theorem step_mget {ok : Bool} {kt : Option IntKind} {zero : V} : SI P (.mget ok kt zero x y) s K ⟨⟩ ⟨⟩ = mgetK ok kt zero (X.ev s.t x) (X.ev s.t y) s.h s.nx K ⟨⟩ := _root_.id rfl
@[simp] theorem step_mlen : SI P (.mlen x) s K ⟨⟩ ⟨⟩ = mlenK (X.ev s.t x) s.h s.nx K ⟨⟩ := _root_.id rfl
@[simp] theorem step_mnew : SI P .mnew s K ⟨⟩ ⟨⟩ = K (.mp s.nx 0) (upd s.h s.nx (some ⟨0, 0, [], some []⟩)) (s.nx + 1) (some [s.nx]) (some [s.nx]) := _root_.id rfl
section
variable {α β : Type} [DecidableEq α]
/-- A map's entries out of a list. -/
def kvs (kv : α → V) (vv : β → V) (l : List (α × β)) : List (V × V) := l.map fun p => (kv p.1, vv p.2)
structure KeyOk (kv : α → V) (kt : Option IntKind) : Prop where
  eq : ∀ a b, keyEq (kv a) (kv b) = some (decide (a = b))
  is : ∀ a, keyIs kt (kv a) = true
theorem keyInt (k : IntKind) : KeyOk (fun a : Int => V.int k a) (some k) := ⟨fun a b => by simp [keyEq]; rfl, fun a => by simp [keyIs]⟩
theorem keyStr : KeyOk (fun a : List UInt8 => V.str a) none := ⟨fun a b => by simp only [keyEq]; congr 1; rw [Bool.eq_iff_iff]; simp, fun a => rfl⟩
/-- What a map holds under a key. -/
def look (a : α) : List (α × β) → Option β
  | [] => none
  | p :: l => if a = p.1 then some p.2 else look a l
/-- The map with this under that key. -/
def putM (a : α) (b : β) : List (α × β) → List (α × β)
  | [] => [(a, b)]
  | p :: l => if a = p.1 then (a, b) :: l else p :: putM a b l
theorem kvFind_none {kv : α → V} {vv : β → V} {kt : Option IntKind} (hk : KeyOk kv kt) {a : α} : ∀ {l : List (α × β)} {i : Nat}, look a l = none → kvFind (kv a) (kvs kv vv l) i = some none
  | [], i, _ => rfl
  | p :: l, i, h => by
    unfold look at h
    split at h
    · cases h
    · rename_i q
      show (match keyEq (kv a) (kv p.1) with | some true => _ | some false => kvFind (kv a) (kvs kv vv l) (i + 1) | none => none) = _
      rw [hk.eq, decide_eq_false q]
      exact kvFind_none hk h
theorem kvFind_some {kv : α → V} {vv : β → V} {kt : Option IntKind} (hk : KeyOk kv kt) {a : α} {b : β} : ∀ {l : List (α × β)} {i : Nat}, look a l = some b → ∃ j, kvFind (kv a) (kvs kv vv l) i = some (some (i + j, vv b)) ∧ j < l.length ∧ ∀ b', kvs kv vv (putM a b' l) = (kvs kv vv l).modify j fun _ => (kv a, vv b')
  | [], i, h => by cases h
  | p :: l, i, h => by
    unfold look at h
    split at h
    · rename_i q
      injection h with h
      subst h
      refine ⟨0, ?_, by simp, fun b' => ?_⟩
      · show (match keyEq (kv a) (kv p.1) with | some true => some (some (i, vv p.2)) | some false => _ | none => none) = _
        rw [hk.eq, decide_eq_true q]
        rfl
      · unfold putM
        rw [if_pos q]
        rfl
    · rename_i q
      obtain ⟨j, h1, h2, h3⟩ := kvFind_some hk (i := i + 1) h
      refine ⟨j + 1, ?_, by simp; omega, fun b' => ?_⟩
      · show (match keyEq (kv a) (kv p.1) with | some true => _ | some false => kvFind (kv a) (kvs kv vv l) (i + 1) | none => none) = _
        rw [hk.eq, decide_eq_false q]
        rw [h1, show i + 1 + j = i + (j + 1) by omega]
      · have := h3 b'
        unfold putM
        rw [if_neg q]
        simp only [kvs, List.map_cons, List.modify_succ_cons] at this ⊢
        rw [this]
theorem putM_none {a : α} {b : β} : ∀ {l : List (α × β)}, look a l = none → putM a b l = l ++ [(a, b)]
  | [], _ => rfl
  | p :: l, h => by
    unfold look at h
    split at h
    · cases h
    · rename_i q
      unfold putM
      rw [if_neg q, putM_none h]
      rfl
variable {h : Hp} {nx id ver e : Nat} {kv : α → V} {vv : β → V} {kt : Option IntKind} {l : List (α × β)}
theorem mset_ok (hk : KeyOk kv kt) (hb : h id = some ⟨ver, e, [], some (kvs kv vv l)⟩) (a : α) (b : β) : msetK kt (.mp id ver) (kv a) (vv b) h nx K ⟨⟩ = K (.tup []) (upd h id (some ⟨ver, e, [], some (kvs kv vv (putM a b l))⟩)) nx (some [id]) (some [id]) := by
  simp only [msetK, opA, noEv, X.ev, hb]
  rw [if_pos ⟨trivial, hk.is a⟩]
  cases hl : look a l with
  | none =>
    rw [kvFind_none hk hl, putM_none hl]
    simp only [kvPut, kvs, List.map_append, List.map_cons, List.map_nil]
    rfl
  | some c =>
    obtain ⟨j, h1, h2, h3⟩ := kvFind_some hk (vv := vv) (i := 0) hl
    rw [h1, h3]
    simp only [kvPut, Nat.zero_add]
    rfl
theorem mget_ok (hk : KeyOk kv kt) (hb : h id = some ⟨ver, e, [], some (kvs kv vv l)⟩) (ok : Bool) (b0 : β) (a : α) : mgetK ok kt (vv b0) (.mp id ver) (kv a) h nx K ⟨⟩ =
    K (if ok then .tup [vv ((look a l).getD b0), .bool (look a l).isSome] else vv ((look a l).getD b0)) h nx (some [id]) (some []) := by
  simp only [mgetK, opA, noEv, X.ev, hb]
  rw [if_pos ⟨trivial, hk.is a⟩]
  cases hl : look a l with
  | none =>
    rw [kvFind_none hk hl]
    rfl
  | some c =>
    obtain ⟨j, h1, h2, h3⟩ := kvFind_some hk (vv := vv) (i := 0) hl
    rw [h1]
    rfl
omit [DecidableEq α] in
theorem mlen_ok (hb : h id = some ⟨ver, e, [], some (kvs kv vv l)⟩) : mlenK (.mp id ver) h nx K ⟨⟩ = K (.int .i64 l.length) h nx (some [id]) (some []) := by
  simp only [mlenK, opA, noEv, X.ev, hb]
  simp [resK, kvs]
-- The number of keys.
theorem look_none {a : α} {l : List (α × β)} : look a l = none ↔ a ∉ l.map (·.1) := by
  induction l with
  | nil => simp [look]
  | cons p l ih =>
    unfold look
    by_cases q : a = p.1
    · simp [q]
    · simp only [if_neg q, ih, List.map_cons, List.mem_cons, not_or]
      exact ⟨fun h => ⟨q, h⟩, fun h => h.2⟩
theorem putM_keys {a : α} {b : β} {l : List (α × β)} : (putM a b l).map (·.1) = if a ∈ l.map (·.1) then l.map (·.1) else l.map (·.1) ++ [a] := by
  induction l with
  | nil => simp [putM]
  | cons p l ih =>
    unfold putM
    by_cases q : a = p.1
    · simp [q]
    · rw [if_neg q]
      simp only [List.map_cons, ih, List.mem_cons, q, false_or]
      split <;> rfl
/-- The keys are those that came, each once. -/
def Keys (ks : List α) (l : List (α × β)) : Prop := (l.map (·.1)).Nodup ∧ ∀ a, a ∈ l.map (·.1) ↔ a ∈ ks
omit [DecidableEq α] in
theorem Keys.nil : Keys ([] : List α) ([] : List (α × β)) := ⟨by simp, by simp⟩
theorem Keys.put {ks : List α} {l : List (α × β)} (h : Keys ks l) (a : α) (b : β) : Keys (ks ++ [a]) (putM a b l) := by
  obtain ⟨h1, h2⟩ := h
  unfold Keys
  rw [putM_keys]
  split
  · rename_i q
    refine ⟨h1, fun c => ?_⟩
    rw [h2, List.mem_append, List.mem_singleton]
    constructor
    · exact .inl
    · rintro (hc | rfl)
      · exact hc
      · exact (h2 _).1 q
  · rename_i q
    refine ⟨?_, fun c => ?_⟩
    · rw [List.nodup_append]
      exact ⟨h1, by simp, fun x hx y hy => by rw [List.mem_singleton] at hy; rw [hy]; exact fun e => q (e ▸ hx)⟩
    · rw [List.mem_append, List.mem_append, h2]
end
/-- A copy of a slice of no elements. -/
theorem clone_empty {P : Program} {sh : Nat → Bool} (hm : P.follows .mixedOrders = true) {f esz bytes : Nat} {zero : List V} (hf : compF P sh f = some (cloneC esz bytes zero, [2], 8)) : OkF P f [.ro 0 []] (.em, []) := by
  refine OkF.empty ?_ ?_
  · refine OkF.em hm hf (of_decide_eq_true rfl) ?_
    simp only [cloneC, wpA, runN, want, stepI, opA, X.ev, ret0, Option.map_some, put, initT, upd]
    simp [upd, initT, resV, ret0, opA]
  · refine OkF.em hm hf (of_decide_eq_true rfl) ?_
    simp only [cloneC, wpA, runN, want, stepI, opA, X.ev, ret0, Option.map_some, put, fillA, zeros, elems, initT, upd]
    simp [upd, initT, resV, ret0, fillA, zeros, elems, opA]
    exact ⟨0, 1, ⟨rfl, rfl⟩, _, rfl, rfl⟩
end Go.Ex
