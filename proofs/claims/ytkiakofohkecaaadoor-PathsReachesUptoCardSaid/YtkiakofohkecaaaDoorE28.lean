/- The rows as a statement's argument reads them; the mark that is laid. No condition but those each theorem states. -/
import Derived.Test.YtkiakofohkecaaaDoorCards
import Derived.Test.YtkiakofohkecaaaDoorTie
import Derived.WalkKit
import Derived.ProofKit
import Derived.OpenShut
import Derived.Deep.DeepHandedRow
import Derived.Lib.LaidTab
import Derived.Test.YtkiakofohkecaaaDoorE27
import Derived.Test.YtkiakofohkecaaaDoorFw19
namespace Go.Proofs.YtkiakofohkecaaaDoor
open Go Go.Fw Go.ChangeShapes Go.WideShapes Go.ChangeAt Go.RowKit

theorem laidOut : laidOutB Tryd.prog = true := by kernel_rfl
theorem own : ownKnob Tryd.prog.godebug = none := by kernel_rfl
theorem und2 : Tryd.prog.underlying 2 = some (.int .i64) := by kernel_rfl
theorem und3 : Tryd.prog.underlying 3 = some (.int .i64) := by kernel_rfl
theorem und4 : Tryd.prog.underlying 4 = some .bool := by kernel_rfl
theorem und32 : Tryd.prog.underlying 32 = some (.int .i64) := by kernel_rfl
theorem und24 : Tryd.prog.underlying 24 = some (.slice 74) := by kernel_rfl
theorem und28 : Tryd.prog.underlying 28 = some (.slice 2) := by kernel_rfl
theorem und59 : Tryd.prog.underlying 59 = some (.slice 62) := by kernel_rfl
theorem und26 : Tryd.prog.underlying 26 = some (.struct (Tryd.prog.fieldsOf 26)) := by kernel_rfl
theorem und74 : Tryd.prog.underlying 74 = some (.struct (Tryd.prog.fieldsOf 74)) := by kernel_rfl
theorem und62 : Tryd.prog.underlying 62 = some (.struct (Tryd.prog.fieldsOf 62)) := by kernel_rfl
theorem fs26 : (Tryd.prog.fieldsOf 26).toList.map (fun f => (f.type, f.offset)) = [(24, 0), (4, 1)] := by kernel_rfl
theorem fs74 : (Tryd.prog.fieldsOf 74).toList.map (fun f => (f.type, f.offset)) = [(2, 0), (59, 1), (32, 2)] := by kernel_rfl
theorem fso62 : (Tryd.prog.fieldsOf 62).toList.map (fun f => (f.type, f.offset)) = [(2, 0), (2, 1), (2, 2)] := by kernel_rfl
theorem cells2 : Tryd.prog.cellsOf 2 = 1 := by kernel_rfl
theorem cells4 : Tryd.prog.cellsOf 4 = 1 := by kernel_rfl
theorem cells24 : Tryd.prog.cellsOf 24 = 1 := by kernel_rfl
theorem cells32 : Tryd.prog.cellsOf 32 = 1 := by kernel_rfl
theorem cells59 : Tryd.prog.cellsOf 59 = 1 := by kernel_rfl
theorem cells62 : Tryd.prog.cellsOf 62 = 3 := by kernel_rfl
theorem cells74 : Tryd.prog.cellsOf 74 = 3 := by kernel_rfl
theorem cells26 : Tryd.prog.cellsOf 26 = 2 := by kernel_rfl

theorem len3 {α : Type} : ∀ {l : List α}, l.length = 3 → ∃ a b c, l = [a, b, c]
  | [a, b, c], _ => ⟨a, b, c, rfl⟩
theorem len2 {α : Type} : ∀ {l : List α}, l.length = 2 → ∃ a b, l = [a, b]
  | [a, b], _ => ⟨a, b, rfl⟩
theorem bulk_len {H : Type} : ∀ (l : List (DataW H)), l.length ≤ Rows.uptoBulkAll l
  | [] => by simp
  | d :: r => by
    have h1 : 1 ≤ Rows.uptoBulk d := by
      cases d with
      | lit l => cases l <;> simp [Rows.uptoBulk]
      | _ => simp [Rows.uptoBulk]
    have := bulk_len r
    simp only [Rows.uptoBulkAll, List.length_cons]; omega
theorem bulk_mem {H : Type} : ∀ {l : List (DataW H)} {d : DataW H}, d ∈ l → Rows.uptoBulk d ≤ Rows.uptoBulkAll l
  | e :: r, d, h => by
    rcases List.mem_cons.1 h with rfl | h
    · simp only [Rows.uptoBulkAll]; omega
    · have := bulk_mem h; simp only [Rows.uptoBulkAll]; omega
theorem list_map_of {α β : Type} {f : α → β} : ∀ {l : List β}, (∀ x ∈ l, ∃ a, x = f a) → ∃ zs : List α, l = zs.map f
  | [], _ => ⟨[], rfl⟩
  | x :: l, h => by
    obtain ⟨a, rfl⟩ := h x (by simp)
    obtain ⟨zs, rfl⟩ := list_map_of (l := l) fun y hy => h y (by simp [hy])
    exact ⟨a :: zs, rfl⟩
theorem list_map_of' {α β : Type} {f : α → β} {p : α → Prop} : ∀ {l : List β}, (∀ x ∈ l, ∃ a, x = f a ∧ p a) → ∃ zs : List α, l = zs.map f ∧ ∀ z ∈ zs, p z
  | [], _ => ⟨[], rfl, by simp⟩
  | x :: l, h => by
    obtain ⟨a, rfl, ha⟩ := h x (by simp)
    obtain ⟨zs, rfl, hz⟩ := list_map_of' (l := l) fun y hy => h y (by simp [hy])
    exact ⟨a :: zs, rfl, fun z hm => by rcases List.mem_cons.1 hm with rfl | hm; exact ha; exact hz z hm⟩

section
variable {H : Type} {enc : TypeId × Value → H} {w : World} {base : Nat} {spare : Nat → Bool} {held : Bool}

theorem arc_of {n : Nat} {c : List Value} {x : DataW H × List MemPlace} (h : DataW.trod enc Tryd.prog w base spare held n 62 c = some x) : ∃ a : Arc, c = a.enc := by
  obtain ⟨ys, n', _, hl, _, hf⟩ := open_fields und62 fso62 h
  rw [cells62] at hl
  obtain ⟨y1, _, m1⟩ := hf 0 2 0 rfl
  obtain ⟨y2, _, m2⟩ := hf 1 2 1 rfl
  obtain ⟨y3, _, m3⟩ := hf 2 2 2 rfl
  rw [cells2] at m1 m2 m3
  obtain ⟨a, e1, _⟩ := DataW.trod_int und2 m1
  obtain ⟨b, e2, _⟩ := DataW.trod_int und2 m2
  obtain ⟨d, e3, _⟩ := DataW.trod_int und2 m3
  obtain ⟨x1, x2, x3, rfl⟩ := len3 hl
  simp at e1 e2 e3
  subst e1 e2 e3
  exact ⟨⟨a, b, d⟩, rfl⟩

theorem arcs_of {n : Nat} {c : List Value} {x : DataW H × List MemPlace} (h : DataW.trod enc Tryd.prog w base spare held n 59 c = some x) (hb : Rows.uptoBulk x.1 ≤ 1048576) :
    ∃ (v : Value) (l : List Arc), c = [v] ∧ RowV w.heap 3 v (l.map Arc.enc) ∧ l.length ≤ 1048576 := by
  obtain ⟨v, xs, ys, e, r, hlen, hx, hel⟩ := open_cells und59 cells62 (by omega) h
  obtain ⟨l, rfl⟩ := list_map_of (f := Arc.enc) (l := xs) fun x hx => by
    obtain ⟨i, hi⟩ := List.getElem?_of_mem hx
    obtain ⟨n, y, _, hy⟩ := hel i x hi
    exact arc_of hy
  refine ⟨v, l, e, r, ?_⟩
  have hlen' : l.length = ys.length := by simpa using hlen
  rcases hx with ⟨_, rfl⟩ | ⟨sp, hx⟩
  · simp only [List.length_nil] at hlen'; omega
  · rw [hx] at hb
    simp only [Rows.uptoBulk] at hb
    have := bulk_len ys
    omega

theorem row_of {n : Nat} {c : List Value} {x : DataW H × List MemPlace} (h : DataW.trod enc Tryd.prog w base spare held n 74 c = some x) (hb : Rows.uptoBulk x.1 ≤ 1048576) :
    ∃ r : NRow, c = r.enc ∧ RowV w.heap 3 r.v (r.arcs.map Arc.enc) ∧ r.arcs.length ≤ 1048576 := by
  obtain ⟨ys, n', hx, hl, _, hf⟩ := open_fields und74 fs74 h
  rw [cells74] at hl
  obtain ⟨y1, _, m1⟩ := hf 0 2 0 rfl
  obtain ⟨y2, hy2, m2⟩ := hf 1 59 1 rfl
  obtain ⟨y3, _, m3⟩ := hf 2 32 2 rfl
  rw [cells2] at m1
  rw [cells59] at m2
  rw [cells32] at m3
  rw [hx] at hb
  have hb2 := bulk_mem (List.mem_of_getElem? hy2)
  simp only [Rows.uptoBulk] at hb
  obtain ⟨a, e1, _⟩ := DataW.trod_int und2 m1
  obtain ⟨v, l, e2, r, hlen⟩ := arcs_of m2 (by omega)
  obtain ⟨d, e3, _⟩ := DataW.trod_int und32 m3
  obtain ⟨x1, x2, x3, rfl⟩ := len3 hl
  simp at e1 e2 e3
  subst e1 e2 e3
  exact ⟨⟨a, x2, l, d⟩, rfl, r, hlen⟩

theorem rows_of {n : Nat} {c : List Value} {x : DataW H × List MemPlace} (h : DataW.trod enc Tryd.prog w base spare held n 24 c = some x) (hb : Rows.uptoBulk x.1 ≤ 1048576) :
    ∃ (v : Value) (rows : List NRow), c = [v] ∧ NetOk w.heap v rows := by
  obtain ⟨v, xs, ys, e, r, hlen, hx, hel⟩ := open_cells und24 cells74 (by omega) h
  have hbl : ys.length ≤ 1048576 ∧ ∀ d ∈ ys, Rows.uptoBulk d ≤ 1048576 := by
    rcases hx with ⟨_, rfl⟩ | ⟨sp, hx⟩
    · simp
    · rw [hx] at hb
      simp only [Rows.uptoBulk] at hb
      have := bulk_len ys
      exact ⟨by omega, fun d hd => by have := bulk_mem hd; omega⟩
  obtain ⟨rows, rfl, hr⟩ := list_map_of' (f := NRow.enc) (p := fun r => RowV w.heap 3 r.v (r.arcs.map Arc.enc) ∧ r.arcs.length ≤ 1048576) (l := xs) fun x hx => by
    obtain ⟨i, hi⟩ := List.getElem?_of_mem hx
    obtain ⟨n, y, hm, hy⟩ := hel i x hi
    exact row_of hy (hbl.2 _ (List.mem_of_getElem? hm))
  exact ⟨v, rows, e, ⟨r, fun r hm => (hr r hm).1, by simp at hlen; omega, fun r hm => (hr r hm).2⟩⟩

set_option maxRecDepth 100000 in
theorem net_of {W : World} {b0 : Nat} {v0 : Value} {d : DataW H} {ps : List MemPlace} (hv : Value.okWide Tryd.prog W .any b0 26 v0) (h : DataW.Trod enc Tryd.prog W base spare held 26 v0 d ps) (hb : Rows.uptoBulk d ≤ 1048576) :
    ∃ (v : Value) (tail : Bool) (rows : List NRow), v0 = .agg #[v, .bool tail] ∧ NetOk W.heap v rows := by
  obtain ⟨cs, rfl, hcs⟩ := okWide_struct und26 hv
  obtain ⟨fuel, hf⟩ := h
  obtain ⟨ys, n', hx, hl, _, hfd⟩ := open_fields und26 fs26 hf
  obtain ⟨y1, hy1, m1⟩ := hfd 0 24 0 rfl
  obtain ⟨y2, _, m2⟩ := hfd 1 4 1 rfl
  rw [cells24] at m1
  rw [cells4] at m2
  simp only at hx
  rw [hx] at hb
  simp only [Rows.uptoBulk] at hb
  have := bulk_mem (List.mem_of_getElem? hy1)
  obtain ⟨v, rows, e1, net⟩ := rows_of m1 (by omega)
  obtain ⟨t, e2, _⟩ := DataW.trod_bool und4 m2
  rw [cells26] at hl
  obtain ⟨l, rfl⟩ : ∃ l : List Value, cs = l.toArray := ⟨cs.toList, by simp⟩
  simp only [Value.cells] at hl e1 e2
  obtain ⟨x1, x2, rfl⟩ := len2 hl
  simp at e1 e2
  subst e1 e2
  exact ⟨x1, t, rows, rfl, net⟩
end

theorem gMark : Tryd.prog.globalNamed "trellis/trellislaw9.pathsMark" = some 2 := by kernel_rfl
theorem gMarkType : (Tryd.prog.globals[2]?).map (·.type) = some 62 := by kernel_rfl
/-- What the rows' list gives: the mark stands in its block. -/
theorem mark_laid {W : World} {l : List (String × DataW Unit)} (hl : l = [("trellis/trellislaw9.pathsMark", Rows.laid_trellis_trellislaw9_pathsMark)]) {ps : List MemPlace} (h : DataW.LaidVars Tryd.prog W l ps) :
    ∃ E f, W.heap[2]? = some (.cells #[.int .i64 (-71), .int .i64 (-72), .int .i64 (-73)] E f) := by
  subst hl
  obtain ⟨⟨cs, fuel, p, hc, hd⟩, _⟩ := laid_head gMark gMarkType h
  obtain ⟨ys, n', hx, hl, _, hf⟩ := open_fields und62 fso62 hd
  rw [cells62] at hl
  obtain ⟨y1, i1, m1⟩ := hf 0 2 0 rfl
  obtain ⟨y2, i2, m2⟩ := hf 1 2 1 rfl
  obtain ⟨y3, i3, m3⟩ := hf 2 2 2 rfl
  rw [cells2] at m1 m2 m3
  obtain ⟨a, e1, z1, _⟩ := DataW.trod_int und2 m1
  obtain ⟨b, e2, z2, _⟩ := DataW.trod_int und2 m2
  obtain ⟨d, e3, z3, _⟩ := DataW.trod_int und2 m3
  simp only [Rows.laid_trellis_trellislaw9_pathsMark, DataW.agg.injEq] at hx
  subst hx
  subst z1 z2 z3
  simp at i1 i2 i3
  subst i1 i2 i3
  have : cs = #[.int .i64 (-71), .int .i64 (-72), .int .i64 (-73)] := by
    obtain ⟨l, rfl⟩ : ∃ l : List Value, cs = l.toArray := ⟨cs.toList, by simp⟩
    obtain ⟨x1, x2, x3, rfl⟩ := len3 hl
    simp at e1 e2 e3
    subst e1 e2 e3
    rfl
  subst this
  exact var_block gMark hc
end Go.Proofs.YtkiakofohkecaaaDoor
