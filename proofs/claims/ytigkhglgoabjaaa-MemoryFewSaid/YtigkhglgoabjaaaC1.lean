/-
  find, Has, Tenant, Remove, Touch, Used, Free over a pool, and over nil.
-/
import Derived.Test.YtigkhglgoabjaaaB2
namespace Go.Proofs.Ytigkhglgoabjaaa
open Go.RowKit

theorem zero55 (w : World) : (zeroValue 55).run Try.prog w = .ok (.pointer none) w := by kernel_rfl

theorem PoolIs.look {w : World} {g : Gh} (h : PoolIs w g) {key : ByteArray} (hk : key.size ≤ maxLen) :
    ((key ∉ g.es.map E.key) ∧ (Instr.lookup 63 (.map (some g.bm)) (.string key) true).run Try.prog w = .ok (.tuple #[.pointer none, .bool false]) w) ∨
    (∃ x, x ∈ g.L ∧ x.e.key = key ∧ (Instr.lookup 63 (.map (some g.bm)) (.string key) true).run Try.prog w = .ok (.tuple #[ptr x.b, .bool true]) w) := by
  rcases h.map.look (t := 63) (et := 55) strKeyed Try.underlying63 (zero55 w) true (keyStr hk) with ⟨h1, h2⟩ | ⟨v, ⟨x, hx, h1, rfl⟩, h2⟩
  · refine .inl ⟨fun hm => ?_, h2⟩
    obtain ⟨e, he, hek⟩ := List.mem_map.1 hm
    obtain ⟨x, hx, rfl⟩ := List.mem_map.1 he
    exact h1 (ptr x.b) ⟨x, hx, by rw [hek], rfl⟩
  · exact .inr ⟨x, hx, by simpa using h1.symm, h2⟩

set_option maxHeartbeats 400000 in
theorem find_nil (key : ByteArray) (w : World) :
    Calls Try.prog 25 #[.pointer none, .string key] w fun e w' => e = .returned (.tuple #[.pointer none, .bool false]) ∧ w = w' := by
  go_enter Try.func25, Try.ntmps25
  go_wp2
  go_ret2
  exact ⟨rfl, rfl⟩

set_option maxHeartbeats 400000 in
theorem find_of (p : Nat) (bm : Nat) (key : ByteArray) (v : Value) (b : Bool) (w : World) (h8 : w.cell? ⟨p, 8, none⟩ = some (.map (some bm)))
    (hl : (Instr.lookup 63 (.map (some bm)) (.string key) true).run Try.prog w = .ok (.tuple #[v, .bool b]) w) :
    Calls Try.prog 25 #[ptr p, .string key] w fun e w' => e = .returned (.tuple #[v, .bool b]) ∧ w = w' := by
  go_enter Try.func25, Try.ntmps25
  go_wp2
  go_ret2
  exact ⟨rfl, rfl⟩

/-- What find answers. -/
def Found (g : Gh) (key : ByteArray) (v : Value) (b : Bool) : Prop := (key ∉ g.es.map E.key ∧ v = .pointer none ∧ b = false) ∨ (∃ x ∈ g.L, x.e.key = key ∧ v = ptr x.b ∧ b = true)

theorem find_pool (g : Gh) (key : ByteArray) (w : World) (h : PoolIs w g) (hk : key.size ≤ maxLen) :
    ∃ v b, Found g key v b ∧ Calls Try.prog 25 #[ptr g.bp, .string key] w fun e w' => e = .returned (.tuple #[v, .bool b]) ∧ w = w' := by
  rcases h.look hk with ⟨h1, h2⟩ | ⟨x, hx, h1, h2⟩
  · exact ⟨_, _, .inl ⟨h1, rfl, rfl⟩, find_of _ _ _ _ _ _ h.c8 h2⟩
  · exact ⟨_, _, .inr ⟨x, hx, h1, rfl, rfl⟩, find_of _ _ _ _ _ _ h.c8 h2⟩

theorem Found.no {g : Gh} {key : ByteArray} {v : Value} {b : Bool} (h : Found g key v b) (hk : key ∉ g.es.map E.key) : v = .pointer none ∧ b = false := by
  rcases h with h | ⟨x, hx, rfl, _⟩
  · exact h.2
  · exact absurd (List.mem_map_of_mem (List.mem_map_of_mem hx)) hk

theorem key_inj {g : Gh} {w : World} (h : PoolIs w g) {x y : Ent} (hx : x ∈ g.L) (hy : y ∈ g.L) (hk : x.e.key = y.e.key) : x = y := by
  obtain ⟨i, hi⟩ := List.mem_iff_getElem?.1 hx
  obtain ⟨j, hj⟩ := List.mem_iff_getElem?.1 hy
  have hn := h.keys
  rw [Gh.es, List.map_map] at hn
  have := nodup_idx hn hi hj hk
  subst this
  rw [hi] at hj
  exact Option.some.inj hj

theorem Found.yes {g : Gh} {key : ByteArray} {v : Value} {b : Bool} {w : World} (hp : PoolIs w g) (h : Found g key v b) {x : Ent} (hx : x ∈ g.L) (hk : x.e.key = key) : v = ptr x.b ∧ b = true := by
  rcases h with h | ⟨y, hy, hk', h1, h2⟩
  · exact absurd (hk ▸ List.mem_map_of_mem (List.mem_map_of_mem hx)) h.1
  · rw [key_inj hp hx hy (hk.trans hk'.symm)]; exact ⟨h1, h2⟩

theorem find_no (g : Gh) (key : ByteArray) (w : World) (h : PoolIs w g) (hks : key.size ≤ maxLen) (hk : key ∉ g.es.map E.key) :
    Calls Try.prog 25 #[ptr g.bp, .string key] w fun e w' => e = .returned (.tuple #[.pointer none, .bool false]) ∧ w = w' := by
  obtain ⟨v, b, hf, hc⟩ := find_pool g key w h hks
  obtain ⟨rfl, rfl⟩ := hf.no hk
  exact hc

theorem find_yes (g : Gh) (x : Ent) (w : World) (h : PoolIs w g) (hx : x ∈ g.L) :
    Calls Try.prog 25 #[ptr g.bp, .string x.e.key] w fun e w' => e = .returned (.tuple #[ptr x.b, .bool true]) ∧ w = w' := by
  obtain ⟨v, b, hf, hc⟩ := find_pool g x.e.key w h (h.ks _ (List.mem_map_of_mem hx))
  obtain ⟨rfl, rfl⟩ := hf.yes h hx rfl
  exact hc

/-! ### Has -/
set_option maxHeartbeats 400000 in
theorem has_nil (key : ByteArray) (w : World) : Calls Try.prog 21 #[.pointer none, .string key] w fun e w' => e = .returned (.bool false) ∧ w = w' := by
  go_enter Try.func21, Try.ntmps21
  go_wp2_with (go_at_call 25; refine (find_nil _ _).mono ?_; rintro e w' ⟨rfl, rfl⟩)
  go_ret
  exact ⟨rfl, rfl⟩

set_option maxHeartbeats 400000 in
theorem has_yes (g : Gh) (x : Ent) (w : World) (h : PoolIs w g) (hx : x ∈ g.L) : Calls Try.prog 21 #[ptr g.bp, .string x.e.key] w fun e w' => e = .returned (.bool true) ∧ w = w' := by
  have H := Lib.hid h; clear h
  go_enter Try.func21, Try.ntmps21
  go_wp2_with (go_at_call 25; refine (find_yes g x _ H.out hx).mono ?_; rintro e w' ⟨rfl, rfl⟩)
  go_ret
  exact ⟨rfl, rfl⟩

set_option maxHeartbeats 400000 in
theorem has_no (g : Gh) (key : ByteArray) (w : World) (h : PoolIs w g) (hks : key.size ≤ maxLen) (hk : key ∉ g.es.map E.key) : Calls Try.prog 21 #[ptr g.bp, .string key] w fun e w' => e = .returned (.bool false) ∧ w = w' := by
  have H := Lib.hid h; clear h
  have HK := Lib.hid hk; clear hk
  go_enter Try.func21, Try.ntmps21
  go_wp2_with (go_at_call 25; refine (find_no g key _ H.out hks HK.out).mono ?_; rintro e w' ⟨rfl, rfl⟩)
  go_ret
  exact ⟨rfl, rfl⟩

/-! ### Tenant -/
set_option maxHeartbeats 400000 in
theorem tenant_nil (key : ByteArray) (w : World) : Calls Try.prog 13 #[.pointer none, .string key] w fun e w' => e = .returned (.int .i64 (-1)) ∧ w = w' := by
  go_enter Try.func13, Try.ntmps13
  go_wp2_with (go_at_call 25; refine (find_nil _ _).mono ?_; rintro e w' ⟨rfl, rfl⟩)
  go_ret
  exact ⟨rfl, rfl⟩

set_option maxHeartbeats 400000 in
theorem tenant_yes (g : Gh) (x : Ent) (w : World) (h : PoolIs w g) (hx : x ∈ g.L) : Calls Try.prog 13 #[ptr g.bp, .string x.e.key] w fun e w' => e = .returned (.int .i64 x.e.t) ∧ w = w' := by
  have hc := (h.ents x hx).c1
  have H := Lib.hid h; clear h
  go_enter Try.func13, Try.ntmps13
  go_wp2_with (go_at_call 25; refine (find_yes g x _ H.out hx).mono ?_; rintro e w' ⟨rfl, rfl⟩)
  go_ret
  exact ⟨rfl, rfl⟩

set_option maxHeartbeats 400000 in
theorem tenant_no (g : Gh) (key : ByteArray) (w : World) (h : PoolIs w g) (hks : key.size ≤ maxLen) (hk : key ∉ g.es.map E.key) : Calls Try.prog 13 #[ptr g.bp, .string key] w fun e w' => e = .returned (.int .i64 (-1)) ∧ w = w' := by
  have H := Lib.hid h; clear h
  have HK := Lib.hid hk; clear hk
  go_enter Try.func13, Try.ntmps13
  go_wp2_with (go_at_call 25; refine (find_no g key _ H.out hks HK.out).mono ?_; rintro e w' ⟨rfl, rfl⟩)
  go_ret
  exact ⟨rfl, rfl⟩

/-! ### Free, Used -/
set_option maxHeartbeats 400000 in
theorem free_nil (w : World) : Calls Try.prog 18 #[.pointer none] w fun e w' => e = .returned (.int .i64 0) ∧ w = w' := by
  go_enter Try.func18, Try.ntmps18
  go_wp2
  go_ret
  exact ⟨rfl, rfl⟩

set_option maxHeartbeats 400000 in
theorem free_low (p : Nat) (f : Int) (w : World) (h : w.cell? ⟨p, 9, none⟩ = some (.int .i64 f)) : Calls Try.prog 18 #[ptr p] w fun e w' => e = .returned (.int .i64 f) ∧ w = w' := by
  go_enter Try.func18, Try.ntmps18
  go_wp2
  go_ret
  exact ⟨rfl, rfl⟩

theorem free_pool (g : Gh) (w : World) (h : PoolIs w g) : Calls Try.prog 18 #[ptr g.bp] w fun e w' => e = .returned (.int .i64 (g.cap - tot g.es)) ∧ w = w' := free_low _ _ _ h.c9

set_option maxHeartbeats 400000 in
theorem used_nil (t : Int) (w : World) : Calls Try.prog 19 #[.pointer none, .int .i64 t] w fun e w' => e = .returned (.int .i64 0) ∧ w = w' := by
  go_enter Try.func19, Try.ntmps19
  go_wp2
  go_ret
  exact ⟨rfl, rfl⟩
end Go.Proofs.Ytigkhglgoabjaaa
