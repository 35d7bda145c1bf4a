/- The framework, part 17: maps whose keys are whole numbers: read and written. No condition. -/
import Derived.Test.YtkiakofohkecaaaDoorFw16
import Derived.MapKept
namespace Go.Fw
open Go

/-- Block b is a map: these keys, with these values, in the order in which they came. -/
def MapAt (h : Hp) (b : Nat) (kd : IntKind) (m : List (Int × Value)) : Prop := ∃ es clock, h[b]? = some (.map es clock) ∧ es.toList.map (fun e => (e.key, e.val)) = m.map fun x => (Value.int kd x.1, x.2)

theorem MapAt.fr {h h' : Hp} {b : Nat} {kd : IntKind} {m : List (Int × Value)} {S : List Nat} (a : MapAt h b kd m) (f : Fr h h' S) (hS : b ∉ S) : MapAt h' b kd m :=
  let ⟨es, c, hb, e⟩ := a; ⟨es, c, f.get hb hS, e⟩
theorem MapAt.lt {h : Hp} {b : Nat} {kd : IntKind} {m : List (Int × Value)} (a : MapAt h b kd m) : b < h.size := let ⟨_, _, hb, _⟩ := a; lt_of_get hb
theorem MapAt.new (h : Hp) (kd : IntKind) : MapAt (h.push (.map #[] 0)) h.size kd [] := ⟨#[], 0, get_new h _, rfl⟩

def mget (m : List (Int × Value)) (k : Int) : Option Value := (m.find? fun x => x.1 == k).map (·.2)
def mset (m : List (Int × Value)) (k : Int) (v : Value) : List (Int × Value) :=
  match m.findIdx? fun x => x.1 == k with
  | some i => m.modify i fun _ => (k, v)
  | none => m ++ [(k, v)]

theorem findNow_int {kd : IntKind} {n : Int} : ∀ (l : List MapEntry) (m : List (Int × Value)) (i : Nat), l.map (fun e => (e.key, e.val)) = m.map (fun x => (Value.int kd x.1, x.2)) →
    Instr.findNow (.int kd) (.int kd n) l i = some ((m.findIdx? fun x => x.1 == n).bind fun j => (m[j]?).map fun x => (i + j, x.2))
  | [], [], _, _ => rfl
  | [], _ :: _, _, h => by simp at h
  | _ :: _, [], _, h => by simp at h
  | e :: l, x :: m, i, h => by
    simp only [List.map_cons, List.cons.injEq, Prod.mk.injEq] at h
    obtain ⟨⟨hk, hv⟩, hr⟩ := h
    have ih := findNow_int (kd := kd) (n := n) l m (i + 1) hr
    unfold Instr.findNow
    rw [hk]
    have hs : Instr.sameNow (.int kd) (.int kd n) (.int kd x.1) = some (n == x.1) := by simp [Instr.sameNow]
    rw [hs]
    by_cases hx : n = x.1
    · subst hx; simp [List.findIdx?_cons, hv]
    · have h1 : (n == x.1) = false := by simpa using hx
      have h2 : (x.1 == n) = false := by simpa using fun e => hx e.symm
      simp only [h1, ih, List.findIdx?_cons, h2, Bool.false_eq_true, if_false]
      cases m.findIdx? fun x => x.1 == n with
      | none => rfl
      | some j => simp [Nat.add_assoc, Nat.add_comm 1 j]

theorem findIdx_mget {m : List (Int × Value)} {n : Int} : mget m n = (m.findIdx? fun x => x.1 == n).bind fun j => (m[j]?).map (·.2) := by
  unfold mget
  induction m with
  | nil => rfl
  | cons x m ih =>
    by_cases hx : (x.1 == n) = true
    · simp [List.findIdx?_cons, hx]
    · simp only [List.find?_cons, List.findIdx?_cons, hx, Bool.false_eq_true, if_false, ih]
      cases m.findIdx? fun x => x.1 == n <;> simp

theorem find_run {P : Program} {kt : Nat} {kd : IntKind} {m : List (Int × Value)} {n : Int} (hk : P.underlying kt = some (.int kd)) {es : Array MapEntry} (e : es.toList.map (fun e => (e.key, e.val)) = m.map fun x => (Value.int kd x.1, x.2)) (w : World) :
    (Instr.findKey kt (.int kd n) es.toList).run P w = .ok ((m.findIdx? fun x => x.1 == n).bind fun j => (m[j]?).map fun x => (j, x.2)) w := by
  have h := findNow_int (kd := kd) (n := n) es.toList m 0 e
  simp only [Nat.zero_add] at h
  exact MapKept.run_findKey hk h

theorem look_rule {P : Program} {t kt et b : Nat} {kd : IntKind} {m : List (Int × Value)} {h : Hp} {n : Int} {z : Value} (ht : P.underlying t = some (.map kt et)) (hk : P.underlying kt = some (.int kd)) (hz : (P.info? et).bind (·.zero) = some z) (a : MapAt h b kd m) (ok : Bool) {K : Value → Prop}
    (k' : K (if ok then .tuple #[(mget m n).getD z, .bool (mget m n).isSome] else (mget m n).getD z)) : rdS P (Instr.lookup t (.map (some b)) (.int kd n) ok) h K := by
  obtain ⟨es, clock, hb, e⟩ := a
  refine ⟨_, fun w hw => ?_, k'⟩
  subst hw
  obtain ⟨i, hi, hiz⟩ := Option.bind_eq_some_iff.1 hz
  have hc : (Instr.checkKey es.isEmpty 10000 kt (.int kd n)).run P w = .ok () w := MapKept.run_checkKey (k := .int kd n) hk (by simp [MapKept.IsKey]) _ 9999
  have hf := find_run (P := P) (n := n) hk e w
  have hz' : (zeroValue et).run P w = .ok z w := by simp [zeroValue, run_typeInfo w hi, hiz, Result.andThen]
  rw [findIdx_mget]
  simp only [Instr.lookup, Sem.run_bind, run_underlying ht, Result.andThen_ok, MapKept.run_getObj_map hb, Sem.run_pure, hc, hf]
  cases hx : m.findIdx? fun x => x.1 == n with
  | none => cases ok <;> simp [hz', Result.andThen]
  | some j =>
    have hj : j < m.length := (List.findIdx?_eq_some_iff_getElem.1 hx).1
    cases ok <;> simp [hj]

theorem frz_map {h : Hp} {b : Nat} {es es' : Array MapEntry} {c c' : Nat} (hb : h[b]? = some (.map es c)) : frz (some (.map es' c')) = frz h[b]? := by rw [hb]; rfl

theorem upd_rule {P : Program} {t kt et b : Nat} {kd : IntKind} {m : List (Int × Value)} {h : Hp} {n : Int} {v : Value} (ht : P.underlying t = some (.map kt et)) (hk : P.underlying kt = some (.int kd)) (a : MapAt h b kd m) {K : Unit → Hp → Prop}
    (k' : ∀ h', MapAt h' b kd (mset m n v) → Fr h h' [b] → K () h') : efS P (Instr.mapUpdate t (.map (some b)) (.int kd n) v) h K := by
  obtain ⟨es, clock, hb, e⟩ := a
  intro w hw
  subst hw
  have ik : MapKept.IsKey (.int kd) (.int kd n) := by simp [MapKept.IsKey]
  have hc : (Instr.checkKey false 10000 kt (.int kd n)).run P w = .ok () w := MapKept.run_checkKey (k := .int kd n) hk ik _ 9999
  have hf := find_run (P := P) (n := n) hk e w
  have hlen : es.size = m.length := by have := congrArg List.length e; simpa using this
  cases hx : m.findIdx? fun x => x.1 == n with
  | none =>
    rw [hx] at hf
    refine ⟨(), { w with heap := w.heap.setIfInBounds b (.map (es.push { key := .int kd n, val := v, born := clock }) (clock + 1)) }, ?_, ⟨rfl, rfl, rfl⟩, ?_⟩
    · simp [Instr.mapUpdate, run_underlying ht, MapKept.run_getObj_map hb, hc, hf, MapKept.run_setObj_map _ hb, Result.andThen]
    · refine k' _ ⟨_, _, get_set hb, ?_⟩ (Fr.set _ b _ (fun _ => by simp) (frz_map hb))
      simp [mset, hx, e]
  | some j =>
    obtain ⟨hj, hjn, _⟩ := List.findIdx?_eq_some_iff_getElem.1 hx
    have hjn' : m[j].1 = n := by simpa using hjn
    have hje : es[j]? = some es[j] := by simp [hlen, hj]
    have hkey : es[j].key = .int kd n := by
      have h1 := congrArg (·[j]?) e
      simp [hj, hlen] at h1
      rw [h1.1, hjn']
    rw [hx] at hf
    simp only [Option.bind_some, List.getElem?_eq_getElem hj, Option.map_some] at hf
    have hst := MapKept.run_keyThatStays (P := P) (w := w) (k := .int kd n) (d := .int kd) ik
    refine ⟨(), { w with heap := w.heap.setIfInBounds b (.map (es.modify j fun e => { e with key := .int kd n, val := v }) clock) }, ?_, ⟨rfl, rfl, rfl⟩, ?_⟩
    · simp [Instr.mapUpdate, run_underlying ht, MapKept.run_getObj_map hb, hc, hf, hje, hkey, hst, MapKept.run_setObj_map _ hb, Result.andThen]
    · refine k' _ ⟨_, _, get_set hb, ?_⟩ (Fr.set _ b _ (fun _ => by simp) (frz_map hb))
      apply List.ext_getElem?
      intro i
      have h1 := congrArg (·[i]?) e
      simp only [List.getElem?_map, Array.getElem?_toList] at h1
      simp only [mset, hx, List.getElem?_map, Array.getElem?_toList, Array.getElem?_modify, List.getElem?_modify]
      by_cases hij : j = i
      · subst hij; simp [hlen, hj]
      · simp [hij, h1]
end Go.Fw
