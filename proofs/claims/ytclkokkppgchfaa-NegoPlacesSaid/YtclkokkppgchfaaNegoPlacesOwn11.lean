/- A part of the proof: texts of this session, joined. -/
import Derived.Test.YtclkokkppgchfaaPart5
import Derived.Test.YtclkokkppgchfaaPart6
import Derived.Test.YtclkokkppgchfaaPart8
import Derived.Test.YtclkokkppgchfaaPart10
import Derived.Test.YtclkokkppgchfaaShort
set_option linter.unusedSimpArgs false
set_option linter.unusedVariables false
set_option maxHeartbeats 6400000
set_option maxRecDepth 100000
namespace Go.Proofs.Ytclkokkppgchfaa
open Go.RowKit Go.Ng Go.Proofs.YtclkokkppgchfaaW.PrintLast
section
variable {tag : Nat → Tag} {k p : Nat} {P : PlaceM} {w : World} {mk ms md mp mi mv : Int}
theorem site_no (n : Int) (h : n < 0 ∨ 32 ≤ n) (w : World) : Calls Try.prog 109 #[.int .i64 n] w fun e w' => e = .returned (.bool false) ∧ w' = w := by
 by_cases h0 : n < 0
 ·have i1 : decide (0 ≤ n) = false := by simpa using h0
  clear h h0
  go_enter Try.func109,Try.ntmps109
  go_wp2
  go_ret
  exact ⟨rfl,rfl⟩
 ·have i1 : decide (0 ≤ n) = true := by simpa using h0
  have i2 : decide (n < 32) = false := by simp; omega
  clear h h0
  go_enter Try.func109,Try.ntmps109
  go_wp2
  go_ret
  exact ⟨rfl,rfl⟩
theorem post_k1 (h0 : decide (mk < 1) = true) (hP : PRep tag k w P) (hok : TagOk tag w) :
  Calls Try.prog 79 #[.pointer (some ⟨P.ptr,0,none⟩),.agg #[.int .i64 mk,.int .i64 ms,.int .i64 md,.int .i64 mp,.int .i64 mi,.int .i64 mv]] w fun e w' => e = .returned (.bool false) ∧ Fr (fun _ => False) tag tag w w' := by
 obtain ⟨sv,iv,ov,cv,hc,h2,h3,h4,h5⟩ := hP.cells
 obtain ⟨A,cap,rfl,hl1,hl2⟩ := h2.form
 unfold maxLen at hl2
 have c0 : w.cell? ⟨P.ptr,0,none⟩ = some (.int .i64 P.no) := cell_of hc 0
 have c1 : w.cell? ⟨P.ptr,1,none⟩ = some (.slice A P.sites.length cap) := cell_of hc 1
 have hpl := lt_of_heap hc
 clear hP hc h2 h3 h4 h5
 go_enter Try.func79,Try.ntmps79
 go_wp2_with fail
 go_quiet (fail)
 go_wp2_with fail
 go_ret
 exact ⟨rfl,((Fr.refl hok).al _).dN _⟩
theorem post_k5 (h0 : decide (mk < 1) = false) (h1 : decide (5 < mk) = true) (hP : PRep tag k w P) (hok : TagOk tag w) :
  Calls Try.prog 79 #[.pointer (some ⟨P.ptr,0,none⟩),.agg #[.int .i64 mk,.int .i64 ms,.int .i64 md,.int .i64 mp,.int .i64 mi,.int .i64 mv]] w fun e w' => e = .returned (.bool false) ∧ Fr (fun _ => False) tag tag w w' := by
 obtain ⟨sv,iv,ov,cv,hc,h2,h3,h4,h5⟩ := hP.cells
 obtain ⟨A,cap,rfl,hl1,hl2⟩ := h2.form
 unfold maxLen at hl2
 have c0 : w.cell? ⟨P.ptr,0,none⟩ = some (.int .i64 P.no) := cell_of hc 0
 have c1 : w.cell? ⟨P.ptr,1,none⟩ = some (.slice A P.sites.length cap) := cell_of hc 1
 have hpl := lt_of_heap hc
 clear hP hc h2 h3 h4 h5
 go_enter Try.func79,Try.ntmps79
 go_wp2_with fail
 go_quiet (fail)
 go_wp2_with fail
 go_ret
 exact ⟨rfl,((Fr.refl hok).al _).dN _⟩
theorem post_d (h0 : decide (mk < 1) = false) (h1 : decide (5 < mk) = false) (g2 : (md != P.no) = true) (hP : PRep tag k w P) (hok : TagOk tag w) :
  Calls Try.prog 79 #[.pointer (some ⟨P.ptr,0,none⟩),.agg #[.int .i64 mk,.int .i64 ms,.int .i64 md,.int .i64 mp,.int .i64 mi,.int .i64 mv]] w fun e w' => e = .returned (.bool false) ∧ Fr (fun _ => False) tag tag w w' := by
 obtain ⟨sv,iv,ov,cv,hc,h2,h3,h4,h5⟩ := hP.cells
 obtain ⟨A,cap,rfl,hl1,hl2⟩ := h2.form
 unfold maxLen at hl2
 have c0 : w.cell? ⟨P.ptr,0,none⟩ = some (.int .i64 P.no) := cell_of hc 0
 have c1 : w.cell? ⟨P.ptr,1,none⟩ = some (.slice A P.sites.length cap) := cell_of hc 1
 have hpl := lt_of_heap hc
 clear hP hc h2 h3 h4 h5
 go_enter Try.func79,Try.ntmps79
 go_wp2_with fail
 go_quiet (fail)
 go_wp2_with fail
 go_ret
 exact ⟨rfl,((Fr.refl hok).al _).dN _⟩
theorem post_site (h0 : decide (mk < 1) = false) (h1 : decide (5 < mk) = false) (g2 : (md != P.no) = false) (g3 : ms < 0 ∨ 32 ≤ ms) (hP : PRep tag k w P) (hok : TagOk tag w) :
  Calls Try.prog 79 #[.pointer (some ⟨P.ptr,0,none⟩),.agg #[.int .i64 mk,.int .i64 ms,.int .i64 md,.int .i64 mp,.int .i64 mi,.int .i64 mv]] w fun e w' => e = .returned (.bool false) ∧ Fr (fun _ => False) tag tag w w' := by
 obtain ⟨sv,iv,ov,cv,hc,h2,h3,h4,h5⟩ := hP.cells
 obtain ⟨A,cap,rfl,hl1,hl2⟩ := h2.form
 unfold maxLen at hl2
 have c0 : w.cell? ⟨P.ptr,0,none⟩ = some (.int .i64 P.no) := cell_of hc 0
 have c1 : w.cell? ⟨P.ptr,1,none⟩ = some (.slice A P.sites.length cap) := cell_of hc 1
 have hpl := lt_of_heap hc
 clear hP hc h2 h3 h4 h5
 have HS := Lib.hid g3
 clear g3
 go_enter Try.func79,Try.ntmps79
 go_wp2_with fail
 go_quiet ((go_at_call 109; exact Calls.quiet_at (site_no ms HS.out _) ⟨_,rfl⟩))
 go_wp2_with fail
 go_ret
 exact ⟨rfl,((Fr.refl hok).al _).dN _⟩
theorem post_i0 (h0 : decide (mk < 1) = false) (h1 : decide (5 < mk) = false) (g2 : (md != P.no) = false) (g3 : 0 ≤ ms ∧ ms < 32) (g4 : decide (mi < 0) = true) (hP : PRep tag k w P) (hok : TagOk tag w) :
  Calls Try.prog 79 #[.pointer (some ⟨P.ptr,0,none⟩),.agg #[.int .i64 mk,.int .i64 ms,.int .i64 md,.int .i64 mp,.int .i64 mi,.int .i64 mv]] w fun e w' => e = .returned (.bool false) ∧ Fr (fun _ => False) tag tag w w' := by
 obtain ⟨sv,iv,ov,cv,hc,h2,h3,h4,h5⟩ := hP.cells
 obtain ⟨A,cap,rfl,hl1,hl2⟩ := h2.form
 unfold maxLen at hl2
 have c0 : w.cell? ⟨P.ptr,0,none⟩ = some (.int .i64 P.no) := cell_of hc 0
 have c1 : w.cell? ⟨P.ptr,1,none⟩ = some (.slice A P.sites.length cap) := cell_of hc 1
 have hpl := lt_of_heap hc
 clear hP hc h2 h3 h4 h5
 have HS := Lib.hid g3
 clear g3
 go_enter Try.func79,Try.ntmps79
 go_wp2_with fail
 go_quiet ((go_at_call 109; exact Calls.quiet_at (site_ok ms HS.out.1 HS.out.2 _) ⟨_,rfl⟩))
 go_wp2_with fail
 go_ret
 exact ⟨rfl,((Fr.refl hok).al _).dN _⟩
theorem post_i1 (h0 : decide (mk < 1) = false) (h1 : decide (5 < mk) = false) (g2 : (md != P.no) = false) (g3 : 0 ≤ ms ∧ ms < 32) (g4 : decide (mi < 0) = false) (g5 : decide ((P.sites.length : Int) ≤ mi) = true) (hP : PRep tag k w P) (hok : TagOk tag w) :
  Calls Try.prog 79 #[.pointer (some ⟨P.ptr,0,none⟩),.agg #[.int .i64 mk,.int .i64 ms,.int .i64 md,.int .i64 mp,.int .i64 mi,.int .i64 mv]] w fun e w' => e = .returned (.bool false) ∧ Fr (fun _ => False) tag tag w w' := by
 obtain ⟨sv,iv,ov,cv,hc,h2,h3,h4,h5⟩ := hP.cells
 obtain ⟨A,cap,rfl,hl1,hl2⟩ := h2.form
 unfold maxLen at hl2
 have c0 : w.cell? ⟨P.ptr,0,none⟩ = some (.int .i64 P.no) := cell_of hc 0
 have c1 : w.cell? ⟨P.ptr,1,none⟩ = some (.slice A P.sites.length cap) := cell_of hc 1
 have hpl := lt_of_heap hc
 clear hP hc h2 h3 h4 h5
 have HS := Lib.hid g3
 clear g3
 go_enter Try.func79,Try.ntmps79
 go_wp2_with fail
 go_quiet ((go_at_call 109; exact Calls.quiet_at (site_ok ms HS.out.1 HS.out.2 _) ⟨_,rfl⟩))
 go_wp2_with fail
 go_ret
 exact ⟨rfl,((Fr.refl hok).al _).dN _⟩
end
section
variable {tag : Nat → Tag} {k p : Nat} {P : PlaceM} {w : World} {mk ms md mp mi mv : Int}
theorem post_v0 (h0 : decide (mk < 1) = false) (h1 : decide (5 < mk) = false) (g2 : (md != P.no) = false) (g3 : 0 ≤ ms ∧ ms < 32) (g4 : decide (mi < 0) = false) (g5 : decide ((P.sites.length : Int) ≤ mi) = false) (h6 : decide (mv < 0) = true) (hP : PRep tag k w P) (hok : TagOk tag w) :
  Calls Try.prog 79 #[.pointer (some ⟨P.ptr,0,none⟩),.agg #[.int .i64 mk,.int .i64 ms,.int .i64 md,.int .i64 mp,.int .i64 mi,.int .i64 mv]] w fun e w' => e = .returned (.bool false) ∧ Fr (fun _ => False) tag tag w w' := by
 obtain ⟨sv,iv,ov,cv,hc,h2,h3,h4,h5⟩ := hP.cells
 obtain ⟨A,cap,rfl,hl1,hl2⟩ := h2.form
 unfold maxLen at hl2
 have c0 : w.cell? ⟨P.ptr,0,none⟩ = some (.int .i64 P.no) := cell_of hc 0
 have c1 : w.cell? ⟨P.ptr,1,none⟩ = some (.slice A P.sites.length cap) := cell_of hc 1
 have hpl := lt_of_heap hc
 clear hP hc h2 h3 h4 h5
 have HS := Lib.hid g3
 clear g3
 go_enter Try.func79,Try.ntmps79
 go_wp2_with fail
 go_quiet ((go_at_call 109; exact Calls.quiet_at (site_ok ms HS.out.1 HS.out.2 _) ⟨_,rfl⟩))
 go_wp2_with fail
 go_ret
 exact ⟨rfl,((Fr.refl hok).al _).dN _⟩
theorem post_vk (h0 : decide (mk < 1) = false) (h1 : decide (5 < mk) = false) (g2 : (md != P.no) = false) (g3 : 0 ≤ ms ∧ ms < 32) (g4 : decide (mi < 0) = false) (g5 : decide ((P.sites.length : Int) ≤ mi) = false) (h6 : decide (mv < 0) = false) (h7 : (mk != 1) = true) (h8 : (mv != 0) = true) (hP : PRep tag k w P) (hok : TagOk tag w) :
  Calls Try.prog 79 #[.pointer (some ⟨P.ptr,0,none⟩),.agg #[.int .i64 mk,.int .i64 ms,.int .i64 md,.int .i64 mp,.int .i64 mi,.int .i64 mv]] w fun e w' => e = .returned (.bool false) ∧ Fr (fun _ => False) tag tag w w' := by
 obtain ⟨sv,iv,ov,cv,hc,h2,h3,h4,h5⟩ := hP.cells
 obtain ⟨A,cap,rfl,hl1,hl2⟩ := h2.form
 unfold maxLen at hl2
 have c0 : w.cell? ⟨P.ptr,0,none⟩ = some (.int .i64 P.no) := cell_of hc 0
 have c1 : w.cell? ⟨P.ptr,1,none⟩ = some (.slice A P.sites.length cap) := cell_of hc 1
 have hpl := lt_of_heap hc
 clear hP hc h2 h3 h4 h5
 have HS := Lib.hid g3
 clear g3
 go_enter Try.func79,Try.ntmps79
 go_wp2_with fail
 go_quiet ((go_at_call 109; exact Calls.quiet_at (site_ok ms HS.out.1 HS.out.2 _) ⟨_,rfl⟩))
 go_wp2_with fail
 go_ret
 exact ⟨rfl,((Fr.refl hok).al _).dN _⟩
theorem post_p0a (h0 : decide (mk < 1) = false) (h1 : decide (5 < mk) = false) (g2 : (md != P.no) = false) (g3 : 0 ≤ ms ∧ ms < 32) (g4 : decide (mi < 0) = false) (g5 : decide ((P.sites.length : Int) ≤ mi) = false) (h6 : decide (mv < 0) = false) (h7 : (mk != 1) = false) (h8 : decide (mp < 0) = true) (hP : PRep tag k w P) (hok : TagOk tag w) :
  Calls Try.prog 79 #[.pointer (some ⟨P.ptr,0,none⟩),.agg #[.int .i64 mk,.int .i64 ms,.int .i64 md,.int .i64 mp,.int .i64 mi,.int .i64 mv]] w fun e w' => e = .returned (.bool false) ∧ Fr (fun _ => False) tag tag w w' := by
 obtain ⟨sv,iv,ov,cv,hc,h2,h3,h4,h5⟩ := hP.cells
 obtain ⟨A,cap,rfl,hl1,hl2⟩ := h2.form
 unfold maxLen at hl2
 have c0 : w.cell? ⟨P.ptr,0,none⟩ = some (.int .i64 P.no) := cell_of hc 0
 have c1 : w.cell? ⟨P.ptr,1,none⟩ = some (.slice A P.sites.length cap) := cell_of hc 1
 have hpl := lt_of_heap hc
 clear hP hc h2 h3 h4 h5
 have HS := Lib.hid g3
 clear g3
 go_enter Try.func79,Try.ntmps79
 go_wp2_with fail
 go_quiet ((go_at_call 109; exact Calls.quiet_at (site_ok ms HS.out.1 HS.out.2 _) ⟨_,rfl⟩))
 go_wp2_with fail
 go_ret
 exact ⟨rfl,((Fr.refl hok).al _).dN _⟩
theorem post_p0b (h0 : decide (mk < 1) = false) (h1 : decide (5 < mk) = false) (g2 : (md != P.no) = false) (g3 : 0 ≤ ms ∧ ms < 32) (g4 : decide (mi < 0) = false) (g5 : decide ((P.sites.length : Int) ≤ mi) = false) (h6 : decide (mv < 0) = false) (h7 : (mk != 1) = true) (h8 : (mv != 0) = false) (h9 : decide (mp < 0) = true) (hP : PRep tag k w P) (hok : TagOk tag w) :
  Calls Try.prog 79 #[.pointer (some ⟨P.ptr,0,none⟩),.agg #[.int .i64 mk,.int .i64 ms,.int .i64 md,.int .i64 mp,.int .i64 mi,.int .i64 mv]] w fun e w' => e = .returned (.bool false) ∧ Fr (fun _ => False) tag tag w w' := by
 obtain ⟨sv,iv,ov,cv,hc,h2,h3,h4,h5⟩ := hP.cells
 obtain ⟨A,cap,rfl,hl1,hl2⟩ := h2.form
 unfold maxLen at hl2
 have c0 : w.cell? ⟨P.ptr,0,none⟩ = some (.int .i64 P.no) := cell_of hc 0
 have c1 : w.cell? ⟨P.ptr,1,none⟩ = some (.slice A P.sites.length cap) := cell_of hc 1
 have hpl := lt_of_heap hc
 clear hP hc h2 h3 h4 h5
 have HS := Lib.hid g3
 clear g3
 go_enter Try.func79,Try.ntmps79
 go_wp2_with fail
 go_quiet ((go_at_call 109; exact Calls.quiet_at (site_ok ms HS.out.1 HS.out.2 _) ⟨_,rfl⟩))
 go_wp2_with fail
 go_ret
 exact ⟨rfl,((Fr.refl hok).al _).dN _⟩
theorem post_p1a (h0 : decide (mk < 1) = false) (h1 : decide (5 < mk) = false) (g2 : (md != P.no) = false) (g3 : 0 ≤ ms ∧ ms < 32) (g4 : decide (mi < 0) = false) (g5 : decide ((P.sites.length : Int) ≤ mi) = false) (h6 : decide (mv < 0) = false) (h7 : (mk != 1) = false) (h8 : decide (mp < 0) = false) (h9 : decide (2147483647 < mp) = true) (hP : PRep tag k w P) (hok : TagOk tag w) :
  Calls Try.prog 79 #[.pointer (some ⟨P.ptr,0,none⟩),.agg #[.int .i64 mk,.int .i64 ms,.int .i64 md,.int .i64 mp,.int .i64 mi,.int .i64 mv]] w fun e w' => e = .returned (.bool false) ∧ Fr (fun _ => False) tag tag w w' := by
 obtain ⟨sv,iv,ov,cv,hc,h2,h3,h4,h5⟩ := hP.cells
 obtain ⟨A,cap,rfl,hl1,hl2⟩ := h2.form
 unfold maxLen at hl2
 have c0 : w.cell? ⟨P.ptr,0,none⟩ = some (.int .i64 P.no) := cell_of hc 0
 have c1 : w.cell? ⟨P.ptr,1,none⟩ = some (.slice A P.sites.length cap) := cell_of hc 1
 have hpl := lt_of_heap hc
 clear hP hc h2 h3 h4 h5
 have HS := Lib.hid g3
 clear g3
 go_enter Try.func79,Try.ntmps79
 go_wp2_with fail
 go_quiet ((go_at_call 109; exact Calls.quiet_at (site_ok ms HS.out.1 HS.out.2 _) ⟨_,rfl⟩))
 go_wp2_with fail
 go_ret
 exact ⟨rfl,((Fr.refl hok).al _).dN _⟩
theorem post_p1b (h0 : decide (mk < 1) = false) (h1 : decide (5 < mk) = false) (g2 : (md != P.no) = false) (g3 : 0 ≤ ms ∧ ms < 32) (g4 : decide (mi < 0) = false) (g5 : decide ((P.sites.length : Int) ≤ mi) = false) (h6 : decide (mv < 0) = false) (h7 : (mk != 1) = true) (h8 : (mv != 0) = false) (h9 : decide (mp < 0) = false) (h10 : decide (2147483647 < mp) = true) (hP : PRep tag k w P) (hok : TagOk tag w) :
  Calls Try.prog 79 #[.pointer (some ⟨P.ptr,0,none⟩),.agg #[.int .i64 mk,.int .i64 ms,.int .i64 md,.int .i64 mp,.int .i64 mi,.int .i64 mv]] w fun e w' => e = .returned (.bool false) ∧ Fr (fun _ => False) tag tag w w' := by
 obtain ⟨sv,iv,ov,cv,hc,h2,h3,h4,h5⟩ := hP.cells
 obtain ⟨A,cap,rfl,hl1,hl2⟩ := h2.form
 unfold maxLen at hl2
 have c0 : w.cell? ⟨P.ptr,0,none⟩ = some (.int .i64 P.no) := cell_of hc 0
 have c1 : w.cell? ⟨P.ptr,1,none⟩ = some (.slice A P.sites.length cap) := cell_of hc 1
 have hpl := lt_of_heap hc
 clear hP hc h2 h3 h4 h5
 have HS := Lib.hid g3
 clear g3
 go_enter Try.func79,Try.ntmps79
 go_wp2_with fail
 go_quiet ((go_at_call 109; exact Calls.quiet_at (site_ok ms HS.out.1 HS.out.2 _) ⟨_,rfl⟩))
 go_wp2_with fail
 go_ret
 exact ⟨rfl,((Fr.refl hok).al _).dN _⟩
theorem post_at (k1 : 1 ≤ mk) (k2 : mk ≤ 5) (hd : md = P.no) (s1 : 0 ≤ ms) (s2 : ms < 32) (j1 : 0 ≤ mi) (j2 : mi < P.sites.length) (v1 : 0 ≤ mv) (v2 : mk ≠ 1 → mv = 0) (p1 : 0 ≤ mp) (p2 : mp ≤ 2147483647)
  (hs : P.site mi ≠ if mk = 2 ∨ mk = 3 then ms else md) (hP : PRep tag k w P) (hok : TagOk tag w) :
  Calls Try.prog 79 #[.pointer (some ⟨P.ptr,0,none⟩),.agg #[.int .i64 mk,.int .i64 ms,.int .i64 md,.int .i64 mp,.int .i64 mi,.int .i64 mv]] w fun e w' => e = .returned (.bool false) ∧ Fr (fun _ => False) tag tag w w' := by
 obtain ⟨j,rfl⟩ := Int.eq_ofNat_of_zero_le j1
 obtain ⟨sv,iv,ov,cv,hc,h2,h3,h4,h5⟩ := hP.cells
 have hjl : j < P.sites.length := by omega
 obtain ⟨b,cap,rfl,hl1,hl2,hsc⟩ := PRep.site_cell h2 hjl
 unfold maxLen at hl2
 have c0 : w.cell? ⟨P.ptr,0,none⟩ = some (.int .i64 P.no) := cell_of hc 0
 have c1 : w.cell? ⟨P.ptr,1,none⟩ = some (.slice (some ⟨b,0,none⟩) P.sites.length cap) := cell_of hc 1
 have hpl := lt_of_heap hc
 have hbl := World.block_lt_of_cell? w _ hsc
 clear hP hc h2 h3 h4 h5
 rw [← hd] at c0
 generalize P.site (j : Int) = s at hs hsc
 clear hd
 rcases (show mk = 1 ∨ mk = 2 ∨ mk = 3 ∨ mk = 4 ∨ mk = 5 by omega) with rfl | rfl | rfl | rfl | rfl <;> (
  simp at hs v2
  replace hs := beq_eq_false_iff_ne.2 hs
  try subst v2
  go_enter Try.func79,Try.ntmps79
  go_wp2_with fail
  go_quiet ((go_at_call 109; exact Calls.quiet_at (site_ok ms s1 s2 _) ⟨_,rfl⟩))
  go_wp2_with fail
  go_quiet (fail)
  go_wp2
  go_ret
  exact ⟨rfl,(((Fr.refl hok).al _).dN _).dN _⟩)
end
section
variable {tag : Nat → Tag} {k p : Nat} {P : PlaceM} {w : World} {mk ms md mp mi mv : Int}
theorem post_no (m : Post) (hP : PRep tag k w P) (hok : TagOk tag w) (hv : ¬ Valid P m) :
  Calls Try.prog 79 #[.pointer (some ⟨P.ptr,0,none⟩),Post.val m] w fun e w' => e = .returned (.bool false) ∧ Fr (fun _ => False) tag tag w w' := by
 obtain ⟨mk,ms,md,mp,mi,mv⟩ := m
 have Y : ∀ {q : Prop} [Decidable q],q → decide q = true := fun h => decide_eq_true h
 have Z : ∀ {q : Prop} [Decidable q],¬ q → decide q = false := fun h => decide_eq_false h
 have ne1 : ∀ {a b : Int},a ≠ b → (a != b) = true := fun h => by simpa using h
 have ne0 : ∀ {a b : Int},a = b → (a != b) = false := fun h => by simpa using h
 show Calls Try.prog 79 #[.pointer (some ⟨P.ptr,0,none⟩),.agg #[.int .i64 mk,.int .i64 ms,.int .i64 md,.int .i64 mp,.int .i64 mi,.int .i64 mv]] w _
 by_cases a1 : mk < 1
 ·exact post_k1 (Y a1) hP hok
 by_cases a2 : 5 < mk
 ·exact post_k5 (Z a1) (Y a2) hP hok
 by_cases a3 : md = P.no
 rotate_left
 ·exact post_d (Z a1) (Z a2) (ne1 a3) hP hok
 by_cases a4 : ms < 0 ∨ 32 ≤ ms
 ·exact post_site (Z a1) (Z a2) (ne0 a3) a4 hP hok
 have a4' : 0 ≤ ms ∧ ms < 32 := by omega
 by_cases a5 : mi < 0
 ·exact post_i0 (Z a1) (Z a2) (ne0 a3) a4' (Y a5) hP hok
 by_cases a6 : (P.sites.length : Int) ≤ mi
 ·exact post_i1 (Z a1) (Z a2) (ne0 a3) a4' (Z a5) (Y a6) hP hok
 by_cases a7 : mv < 0
 ·exact post_v0 (Z a1) (Z a2) (ne0 a3) a4' (Z a5) (Z a6) (Y a7) hP hok
 have fin : ¬ (mk ≠ 1 ∧ mv ≠ 0) → 0 ≤ mp → mp ≤ 2147483647 → Calls Try.prog 79 #[.pointer (some ⟨P.ptr,0,none⟩),.agg #[.int .i64 mk,.int .i64 ms,.int .i64 md,.int .i64 mp,.int .i64 mi,.int .i64 mv]] w fun e w' => e = .returned (.bool false) ∧ Fr (fun _ => False) tag tag w w' := by
  intro b1 b2 b3
  refine post_at (by omega) (by omega) a3 a4'.1 a4'.2 (by omega) (by omega) (by omega) (fun h => by omega) b2 b3 (fun h => ?_) hP hok
  exact hv ⟨⟨by simp; omega,by simp; omega⟩,a3,a4',⟨by simp; omega,by simp; omega⟩,⟨by simp; omega,fun h => by simp at h ⊢; omega⟩,⟨b2,b3⟩,h⟩
 by_cases a8 : mk = 1
 ·by_cases a9 : mp < 0
  ·exact post_p0a (Z a1) (Z a2) (ne0 a3) a4' (Z a5) (Z a6) (Z a7) (ne0 a8) (Y a9) hP hok
  by_cases a10 : 2147483647 < mp
  ·exact post_p1a (Z a1) (Z a2) (ne0 a3) a4' (Z a5) (Z a6) (Z a7) (ne0 a8) (Z a9) (Y a10) hP hok
  exact fin (by omega) (by omega) (by omega)
 ·by_cases a9 : mv = 0
  rotate_left
  ·exact post_vk (Z a1) (Z a2) (ne0 a3) a4' (Z a5) (Z a6) (Z a7) (ne1 a8) (ne1 a9) hP hok
  by_cases a10 : mp < 0
  ·exact post_p0b (Z a1) (Z a2) (ne0 a3) a4' (Z a5) (Z a6) (Z a7) (ne1 a8) (ne0 a9) (Y a10) hP hok
  by_cases a11 : 2147483647 < mp
  ·exact post_p1b (Z a1) (Z a2) (ne0 a3) a4' (Z a5) (Z a6) (Z a7) (ne1 a8) (ne0 a9) (Z a10) (Y a11) hP hok
  exact fin (by omega) (by omega) (by omega)
end
theorem nil20 (w : World) (n : Int) (v : Value) : Calls Try.prog 20 #[.pointer none,.int .i64 n,v] w fun e w' => e = .returned (.tuple #[.slice none 0 0,.slice none 0 0,.int .i64 271]) ∧ w' = w := by
 go_enter Try.func20,Try.ntmps20
 go_wp2_with fail
 go_ret3
 exact ⟨rfl,rfl⟩
theorem nil23 (w : World) (n : Int) : Calls Try.prog 23 #[.pointer none,.int .i64 n] w fun e w' => e = .returned (.tuple #[.slice none 0 0,.int .i64 271]) ∧ w' = w := by
 go_enter Try.func23,Try.ntmps23
 go_wp2_with fail
 go_ret2
 exact ⟨rfl,rfl⟩
theorem nil45 (w : World) (n : Int) : Calls Try.prog 45 #[.pointer none,.int .i64 n] w fun e w' => e = .returned (.tuple #[.int .i64 0,.int .i64 271]) ∧ w' = w := by
 go_enter Try.func45,Try.ntmps45
 go_wp2_with fail
 go_ret2
 exact ⟨rfl,rfl⟩
theorem nil88 (w : World) (n : Int) : Calls Try.prog 88 #[.pointer none,.int .i64 n] w fun e w' => e = .returned (.tuple #[.int .i64 0,.int .i64 271]) ∧ w' = w := by
 go_enter Try.func88,Try.ntmps88
 go_wp2_with fail
 go_ret2
 exact ⟨rfl,rfl⟩
theorem nil89 (w : World) (n : Int) : Calls Try.prog 89 #[.pointer none,.int .i64 n] w fun e w' => e = .returned (.tuple #[.int .i64 0,.int .i64 271]) ∧ w' = w := by
 go_enter Try.func89,Try.ntmps89
 go_wp2_with fail
 go_ret2
 exact ⟨rfl,rfl⟩
theorem nil90 (w : World) (n : Int) : Calls Try.prog 90 #[.pointer none,.int .i64 n] w fun e w' => e = .returned (.tuple #[.slice none 0 0,.int .i64 271]) ∧ w' = w := by
 go_enter Try.func90,Try.ntmps90
 go_wp2_with fail
 go_ret2
 exact ⟨rfl,rfl⟩
section
variable {tag : Nat → Tag} {k p : Nat} {P : PlaceM} {w : World} {mk ms md mp mi mv : Int}
theorem nil25 (hok : TagOk tag w) : Calls Try.prog 25 #[.pointer none,.agg #[.int .i64 mk,.int .i64 ms,.int .i64 md,.int .i64 mp,.int .i64 mi,.int .i64 mv]] w fun e w' => e = .returned (.tuple #[.slice none 0 0,.slice none 0 0,.int .i64 271]) ∧ Fr (fun _ => False) tag tag w w' := by
 go_enter Try.func25,Try.ntmps25
 go_wp2_with fail
 go_ret3
 exact ⟨rfl,Fr.alloc hok _⟩
theorem own_no (n : Int) (hP : PRep tag k w P) (h : n < 0 ∨ (P.items.length : Int) ≤ n ∨ ∃ j : Nat,n = j ∧ P.items[j]? = some none) :
  Calls Try.prog 120 #[.pointer (some ⟨P.ptr,0,none⟩),.int .i64 n] w fun e w' => e = .returned (.pointer none) ∧ w' = w := by
 obtain ⟨sv,iv,ov,cv,hc,h2,h3,h4,h5⟩ := hP.cells
 obtain ⟨A,cap,rfl,hl1,hl2⟩ := h3.form
 unfold maxLen at hl2
 have c2 : w.cell? ⟨P.ptr,2,none⟩ = some (.slice A P.items.length cap) := cell_of hc 2
 by_cases a1 : n < 0
 ·have i1 : decide (n < 0) = true := decide_eq_true a1
  clear h a1 hP hc h2 h3 h4 h5
  go_enter Try.func120,Try.ntmps120
  go_wp2
  go_ret
  exact ⟨rfl,rfl⟩
 ·have i1 : decide (n < 0) = false := decide_eq_false a1
  by_cases a2 : (P.items.length : Int) ≤ n
  ·have i2 : decide ((P.items.length : Int) ≤ n) = true := decide_eq_true a2
   clear h a1 a2 hP hc h2 h3 h4 h5
   go_enter Try.func120,Try.ntmps120
   go_wp2
   go_ret
   exact ⟨rfl,rfl⟩
  ·obtain ⟨j,rfl,hj⟩ : ∃ j : Nat,n = j ∧ P.items[j]? = some none := by
    rcases h with h | h | h
    ·exact absurd h a1
    ·exact absurd h a2
    ·exact h
   obtain ⟨b,rfl,_,_,hcell⟩ := h3.cell rfl (j:=j) (by rw [List.length_map]; omega)
   rw [List.getElem?_map,hj] at hcell
   have hcc : w.cell? ⟨b,j,none⟩ = some (.pointer none) := hcell
   have i3 : (0 : Int) ≤ (j : Int) := by omega
   have i4 : (j : Int) < (P.items.length : Int) := by omega
   clear h a1 a2 i1 hP hc h2 h3 h4 h5 hj hcell
   go_enter Try.func120,Try.ntmps120
   go_wp2
   go_ret
   exact ⟨rfl,rfl⟩
theorem version_no (n : Int) (hP : PRep tag k w P) (h : n < 0 ∨ (P.items.length : Int) ≤ n ∨ ∃ j : Nat,n = j ∧ P.items[j]? = some none) :
  Calls Try.prog 88 #[.pointer (some ⟨P.ptr,0,none⟩),.int .i64 n] w fun e w' => e = .returned (.tuple #[.int .i64 0,.int .i64 3]) ∧ w' = w := by
 have HO := Lib.hid (own_no n hP h)
 clear hP h
 go_enter Try.func88,Try.ntmps88
 go_wp2_with (go_at_call 120; refine HO.out.mono ?_; rintro e w' ⟨rfl,hw⟩; replace hw := hw.symm; subst hw)
 go_ret2
 exact ⟨rfl,rfl⟩
theorem holder_no (n : Int) (hP : PRep tag k w P) (h : n < 0 ∨ (P.items.length : Int) ≤ n ∨ ∃ j : Nat,n = j ∧ P.items[j]? = some none) :
  Calls Try.prog 89 #[.pointer (some ⟨P.ptr,0,none⟩),.int .i64 n] w fun e w' => e = .returned (.tuple #[.int .i64 0,.int .i64 3]) ∧ w' = w := by
 have HO := Lib.hid (own_no n hP h)
 clear hP h
 go_enter Try.func89,Try.ntmps89
 go_wp2_with (go_at_call 120; refine HO.out.mono ?_; rintro e w' ⟨rfl,hw⟩; replace hw := hw.symm; subst hw)
 go_ret2
 exact ⟨rfl,rfl⟩
theorem pwaits_no (n : Int) (hP : PRep tag k w P) (h : n < 0 ∨ (P.items.length : Int) ≤ n ∨ ∃ j : Nat,n = j ∧ P.items[j]? = some none) :
  Calls Try.prog 90 #[.pointer (some ⟨P.ptr,0,none⟩),.int .i64 n] w fun e w' => e = .returned (.tuple #[.slice none 0 0,.int .i64 3]) ∧ w' = w := by
 have HO := Lib.hid (own_no n hP h)
 clear hP h
 go_enter Try.func90,Try.ntmps90
 go_wp2_with (go_at_call 120; refine HO.out.mono ?_; rintro e w' ⟨rfl,hw⟩; replace hw := hw.symm; subst hw)
 go_ret2
 exact ⟨rfl,rfl⟩
theorem propose_claim (n : Int) {v : Value} (hP : PRep tag k w P) (hok : TagOk tag w) (hcall : ∀ (SA : Option Addr) (scap : Nat),Calls Try.prog 69 #[.slice SA P.sites.length scap,v] w fun e w2 => e = .returned (.bool false) ∧ Fr (fun _ => False) tag tag w w2):
  Calls Try.prog 20 #[.pointer (some ⟨P.ptr,0,none⟩),.int .i64 n,v] w fun e w' => e = .returned (.tuple #[.slice none 0 0,.slice none 0 0,.int .i64 270]) ∧ Fr (fun _ => False) tag tag w w' := by
 obtain ⟨sv,iv,ov,cv,hc,h2,h3,h4,h5⟩ := hP.cells
 obtain ⟨SA,scap,rfl,hl1,hl2⟩ := h2.form
 unfold maxLen at hl2
 have c1 : w.cell? ⟨P.ptr,1,none⟩ = some (.slice SA P.sites.length scap) := cell_of hc 1
 have c3 : w.cell? ⟨P.ptr,3,none⟩ = some (.map (some P.pm)) := cell_of hc 3
 have HC := Lib.hid (hcall SA scap)
 clear hP hc h2 h3 h4 h5 hcall
 go_enter Try.func20,Try.ntmps20
 go_wp2_with (
  go_at_call 69
  refine HC.out.mono ?_
  rintro e w1 ⟨rfl,hF⟩
  have HF := Lib.hid hF
  have hpl := hF.size
  clear hF)
 go_ret3
 exact ⟨rfl,HF.out⟩
theorem propose_low (n : Int) (l : List Clm) {v : Value} (hP : PRep tag k w P) (hok : TagOk tag w) (hr : Rd 2 w v l.length (claims l)) (hs : P.sites.length ≤ 1000000) (hcl : claimedB P.sites.length l = true) (a1 : n < 0) :
  Calls Try.prog 20 #[.pointer (some ⟨P.ptr,0,none⟩),.int .i64 n,v] w fun e w' => e = .returned (.tuple #[.slice none 0 0,.slice none 0 0,.int .i64 1]) ∧ Fr (fun _ => False) tag tag w w' := by
 obtain ⟨sv,iv,ov,cv,hc,h2,h3,h4,h5⟩ := hP.cells
 obtain ⟨SA,scap,rfl,hl1,hl2⟩ := h2.form
 unfold maxLen at hl2
 have c1 : w.cell? ⟨P.ptr,1,none⟩ = some (.slice SA P.sites.length scap) := cell_of hc 1
 have c3 : w.cell? ⟨P.ptr,3,none⟩ = some (.map (some P.pm)) := cell_of hc 3
 have HC := Lib.hid (claimed_ok P.sites.length SA scap l w hr hok hs)
 rw [hcl] at HC
 have i1 : decide (n < 0) = true := decide_eq_true a1
 clear a1
 clear hP hc h2 h3 h4 h5 hr hcl
 go_enter Try.func20,Try.ntmps20
 go_wp2_with (
  go_at_call 69
  refine HC.out.mono ?_
  rintro e w1 ⟨rfl,hF⟩
  have HF := Lib.hid hF
  have hpl := hF.size
  clear hF)
 go_ret3
 exact ⟨rfl,HF.out⟩
theorem propose_high (n : Int) (l : List Clm) {v : Value} (hP : PRep tag k w P) (hok : TagOk tag w) (hr : Rd 2 w v l.length (claims l)) (hs : P.sites.length ≤ 1000000) (hcl : claimedB P.sites.length l = true) (a1 : ¬ n < 0) (a2 : 2147483647 < n) :
  Calls Try.prog 20 #[.pointer (some ⟨P.ptr,0,none⟩),.int .i64 n,v] w fun e w' => e = .returned (.tuple #[.slice none 0 0,.slice none 0 0,.int .i64 1]) ∧ Fr (fun _ => False) tag tag w w' := by
 obtain ⟨sv,iv,ov,cv,hc,h2,h3,h4,h5⟩ := hP.cells
 obtain ⟨SA,scap,rfl,hl1,hl2⟩ := h2.form
 unfold maxLen at hl2
 have c1 : w.cell? ⟨P.ptr,1,none⟩ = some (.slice SA P.sites.length scap) := cell_of hc 1
 have c3 : w.cell? ⟨P.ptr,3,none⟩ = some (.map (some P.pm)) := cell_of hc 3
 have HC := Lib.hid (claimed_ok P.sites.length SA scap l w hr hok hs)
 rw [hcl] at HC
 have i1 : decide (n < 0) = false := decide_eq_false a1
 have i2 : decide (2147483647 < n) = true := decide_eq_true a2
 clear a1 a2
 clear hP hc h2 h3 h4 h5 hr hcl
 go_enter Try.func20,Try.ntmps20
 go_wp2_with (
  go_at_call 69
  refine HC.out.mono ?_
  rintro e w1 ⟨rfl,hF⟩
  have HF := Lib.hid hF
  have hpl := hF.size
  clear hF)
 go_ret3
 exact ⟨rfl,HF.out⟩
theorem propose_dup {x : PropM} (n : Int) (l : List Clm) {v : Value} (hP : PRep tag k w P) (hok : TagOk tag w) (hr : Rd 2 w v l.length (claims l)) (hs : P.sites.length ≤ 1000000) (hcl : claimedB P.sites.length l = true) (a1 : ¬ n < 0) (a2 : ¬ 2147483647 < n) (hf : find P.props n = some x) :
  Calls Try.prog 20 #[.pointer (some ⟨P.ptr,0,none⟩),.int .i64 n,v] w fun e w' => e = .returned (.tuple #[.slice none 0 0,.slice none 0 0,.int .i64 1]) ∧ Fr (fun _ => False) tag tag w w' := by
 obtain ⟨sv,iv,ov,cv,hc,h2,h3,h4,h5⟩ := hP.cells
 obtain ⟨SA,scap,rfl,hl1,hl2⟩ := h2.form
 unfold maxLen at hl2
 have c1 : w.cell? ⟨P.ptr,1,none⟩ = some (.slice SA P.sites.length scap) := cell_of hc 1
 have c3 : w.cell? ⟨P.ptr,3,none⟩ = some (.map (some P.pm)) := cell_of hc 3
 have HC := Lib.hid (claimed_ok P.sites.length SA scap l w hr hok hs)
 rw [hcl] at HC
 have i1 : decide (n < 0) = false := decide_eq_false a1
 have i2 : decide (2147483647 < n) = false := decide_eq_false a2
 have HP := Lib.hid hP
 have HFD := Lib.hid hf
 clear hP hc h2 h3 h4 h5 hr hcl a1 a2 hf
 go_enter Try.func20,Try.ntmps20
 go_wp2_with (
  go_at_call 69
  refine HC.out.mono ?_
  rintro e w1 ⟨rfl,hF⟩
  have HF := Lib.hid hF
  have c3' := hF.cellF c3
  have hlk := look_prop (HP.out.fr hF (fun _ _ x => x)) n
  rw [HFD.out] at hlk
  simp only [propPtr] at hlk
  clear hF c3)
 go_ret3
 exact ⟨rfl,HF.out⟩
theorem drop_none {n : Int} (hP : PRep tag k w P) (hf : find P.props n = none) :
  Calls Try.prog 23 #[.pointer (some ⟨P.ptr,0,none⟩),.int .i64 n] w fun e w' => e = .returned (.tuple #[.slice none 0 0,.int .i64 3]) ∧ w' = w := by
 have hlk := look_prop hP n
 obtain ⟨sv,iv,ov,cv,hc,h2,h3,h4,h5⟩ := hP.cells
 have c3 : w.cell? ⟨P.ptr,3,none⟩ = some (.map (some P.pm)) := cell_of hc 3
 rw [hf] at hlk
 simp only [propPtr] at hlk
 clear hP hc h2 h3 h4 h5 hf
 go_enter Try.func23,Try.ntmps23
 go_wp2_with fail
 go_ret2
 exact ⟨rfl,rfl⟩
theorem drop_over {n : Int} {x : PropM} (hP : PRep tag k w P) (hf : find P.props n = some x) (hst : x.state ≠ 1) :
  Calls Try.prog 23 #[.pointer (some ⟨P.ptr,0,none⟩),.int .i64 n] w fun e w' => e = .returned (.tuple #[.slice none 0 0,.int .i64 273]) ∧ w' = w := by
 have hlk := look_prop hP n
 obtain ⟨sv,iv,ov,cv,hc,h2,h3,h4,h5⟩ := hP.cells
 have c3 : w.cell? ⟨P.ptr,3,none⟩ = some (.map (some P.pm)) := cell_of hc 3
 rw [hf] at hlk
 simp only [propPtr] at hlk
 obtain ⟨xv,hxc,hxr⟩ := (hP.props _ x (find_mem hf)).cells
 have x1 : w.cell? ⟨x.ptr,1,none⟩ = some (.int .i64 x.state) := cell_of hxc 1
 have i1 : (x.state != 1) = true := by simpa using hst
 clear hP hc h2 h3 h4 h5 hf hxc hxr hst
 go_enter Try.func23,Try.ntmps23
 go_wp2_with fail
 go_ret2
 exact ⟨rfl,rfl⟩
theorem take_bad (m : Post) (hP : PRep tag k w P) (hok : TagOk tag w) (hv : ¬ Valid P m) :
  Calls Try.prog 25 #[.pointer (some ⟨P.ptr,0,none⟩),Post.val m] w fun e w' => e = .returned (.tuple #[.slice none 0 0,.slice none 0 0,.int .i64 272]) ∧ Fr (fun _ => False) tag tag w w' := by
 obtain ⟨mk,ms,md,mp,mi,mv⟩ := m
 have HV := Lib.hid hv
 have HA := Lib.hid (Fr.alloc (S:=fun _ => False) hok (.cells #[.int .i64 mk,.int .i64 ms,.int .i64 md,.int .i64 mp,.int .i64 mi,.int .i64 mv] 49))
 have HP := Lib.hid (hP.fr HA.out (fun _ _ x => x))
 have hok1 := HA.out.dom
 clear hP hv
 unfold Post.val
 go_enter Try.func25,Try.ntmps25
 go_wp2_with (
  go_at_call 79
  refine (post_no ⟨mk,ms,md,mp,mi,mv⟩ HP.out hok1 HV.out).mono ?_
  rintro e w1 ⟨rfl,hF⟩
  have HF := Lib.hid (HA.out.trans hF)
  clear hF)
 go_ret3
 exact ⟨rfl,HF.out⟩
theorem take_none (m : Post) (hP : PRep tag k w P) (hok : TagOk tag w) (hv : Valid P m) (h23 : m.kind = 2 ∨ m.kind = 3) (hf : find P.props m.prop = none) :
  Calls Try.prog 25 #[.pointer (some ⟨P.ptr,0,none⟩),Post.val m] w fun e w' => e = .returned (.tuple #[.slice none 0 0,.slice none 0 0,.int .i64 3]) ∧ Fr (fun _ => False) tag tag w w' := by
 obtain ⟨mk,ms,md,mp,mi,mv⟩ := m
 have HV := Lib.hid hv
 have HA := Lib.hid (Fr.alloc (S:=fun _ => False) hok (.cells #[.int .i64 mk,.int .i64 ms,.int .i64 md,.int .i64 mp,.int .i64 mi,.int .i64 mv] 49))
 have HP := Lib.hid (hP.fr HA.out (fun _ _ x => x))
 have HFD := Lib.hid hf
 have hok1 := HA.out.dom
 have hpl : P.ptr < w.heap.size := by obtain ⟨sv,iv,ov,cv,hc,h2,h3,h4,h5⟩ := hP.cells; exact lt_of_heap hc
 have m0 : (w.alloc (.cells #[.int .i64 mk,.int .i64 ms,.int .i64 md,.int .i64 mp,.int .i64 mi,.int .i64 mv] 49)).cell? ⟨w.heap.size,0,none⟩ = some (.int .i64 mk) := by go_simp
 have m3 : (w.alloc (.cells #[.int .i64 mk,.int .i64 ms,.int .i64 md,.int .i64 mp,.int .i64 mi,.int .i64 mv] 49)).cell? ⟨w.heap.size,3,none⟩ = some (.int .i64 mp) := by go_simp
 have M0 := Lib.hid m0
 have M3 := Lib.hid m3
 clear hP hv hf m0 m3
 unfold Post.val
 simp only at h23
 rcases h23 with rfl | rfl <;> (
  go_enter Try.func25,Try.ntmps25
  go_wp2_with (
   go_at_call 79
   refine (post_ok ⟨_,ms,md,mp,mi,mv⟩ HP.out hok1 HV.out).mono ?_
   rintro e w1 ⟨rfl,hF⟩
   have HF := Lib.hid (HA.out.trans hF)
   have HP1 := Lib.hid (HP.out.fr hF (fun _ _ x => x))
   have hok3 := hF.dom
   have hlk : ∀ n,(Instr.lookup 110 (.map (some P.pm)) (.int .i64 mp) false).run Try.prog (w1.drewN n) = .ok (.pointer none) (w1.drewN n) := fun n => by
    have := look_prop (HP1.out.drewN hok3 n) mp
    rw [HFD.out] at this
    exact this
   obtain ⟨sv,iv,ov,cv,hc,h2,h3,h4,h5⟩ := HP1.out.cells
   have c3 : w1.cell? ⟨P.ptr,3,none⟩ = some (.map (some P.pm)) := cell_of hc 3
   have k0 := hF.cellF M0.out
   have k3 := hF.cellF M3.out
   have hok2 := hF.dom
   clear hF hc h2 h3 h4 h5)
  go_quiet (fail)
  go_wp2_with fail
  go_ret3
  exact ⟨rfl,HF.out.dN _⟩)
theorem newPlace_bad {v : Value} (no : Int) (l : List Int) (hr : Rd 1 w v l.length (ints l)) (hok : TagOk tag w) (hl : no < 0 ∨ 32 ≤ no ∨ rightB l 32 = false) :
  Calls Try.prog 18 #[.int .i64 no,v] w fun e w' => e = .returned (.tuple #[.pointer none,.int .i64 271]) ∧ Fr (fun _ => False) tag tag w w' := by
 have HC := Lib.hid (right_ok l 32 w hr hok)
 by_cases h1 : no < 0
 ·have i1 : decide (no < 0) = true := decide_eq_true h1
  clear hl h1 hr
  go_enter Try.func18,Try.ntmps18
  go_wp2_with fail
  go_ret2
  exact ⟨rfl,Fr.refl hok⟩
 ·have i1 : decide (no < 0) = false := decide_eq_false h1
  by_cases h2 : 32 ≤ no
  ·have i2 : decide (32 ≤ no) = true := decide_eq_true h2
   clear hl h1 h2 hr
   go_enter Try.func18,Try.ntmps18
   go_wp2_with fail
   go_ret2
   exact ⟨rfl,Fr.refl hok⟩
  ·have i2 : decide (32 ≤ no) = false := decide_eq_false h2
   have HL : Hid (rightB l 32 = false) := Lib.hid (by
    rcases hl with h | h | h
    ·exact absurd h h1
    ·exact absurd h h2
    ·exact h)
   clear hl h1 h2 hr
   go_enter Try.func18,Try.ntmps18
   go_wp2_with (
    go_at_call 66
    refine HC.out.mono ?_
    rw [HL.out]
    rintro e w1 ⟨rfl,hw⟩
    have HW := Lib.hid hw
    clear hw)
   go_ret2
   exact ⟨rfl,HW.out⟩
end
theorem rin_ok {v : Value} (l : List Int) (p : Int) (w : World) (hr : Rd 1 w v l.length (ints l)) (hl : l.length ≤ 1000000) :
  Calls Try.prog 115 #[v,.int .i64 p] w fun e w' => e = .returned (.bool (decide (p ∈ l))) ∧ w' = w := by
 obtain ⟨A,cap,rfl,hn1,hn2⟩ := hr.slice
 unfold maxLen at hn2
 have HR := Lib.hid hr
 clear hr
 go_enter Try.func115,Try.ntmps115
 go_wp2_with fail
 go_loop [5] (fun i => ∃ n : Nat,n ≤ l.length ∧ i = .int .i64 n ∧ Hid (∀ i < n,∀ x,l[i]? = some x → x ≠ p)) (fun i => l.length - (intOf i).toNat)
 case atStart => exact ⟨0,Nat.zero_le _,rfl,Lib.hid (fun i hi => by omega)⟩
 case round =>
  obtain ⟨n,hn,rfl,HNO⟩ := hrel
  by_cases hlt : n < l.length
  ·obtain ⟨x,hx⟩ : ∃ c,l[n]? = some c := ⟨_,List.getElem?_eq_getElem hlt⟩
   obtain ⟨ab,aoff,acap',he,_,_,hac⟩ := Rd.int HR.out hx
   injection he with he _ he2
   subst he he2
   have i1 : (0 : Int) ≤ (n : Int) := by omega
   have i2 : (n : Int) < (l.length : Int) := by omega
   have HX := Lib.hid hx
   clear hx
   by_cases e : x = p
   ·subst e
    have HM : Hid (decide (x ∈ l) = true) := Lib.hid (decide_eq_true (List.mem_of_getElem? HX.out))
    go_wp2_with fail
    go_ret
    exact ⟨by rw [HM.out]; rfl,rfl⟩
   ·have q0 : (x == p) = false := by simpa using e
    have HE := Lib.hid e
    clear e
    go_wp2_with fail
    go_round
    case rel => exact ⟨n + 1,by omega,by go_num,Lib.hid (fun i hi y hy => by
     rcases Nat.lt_succ_iff_lt_or_eq.1 hi with h | h
     ·exact HNO.out i h y hy
     ·subst h; rw [HX.out] at hy; injection hy with hy; rw [← hy]; exact HE.out)⟩
    case measure => simp [intOf]; omega
  ·have hnn : n = l.length := by omega
   subst hnn
   have HM : Hid (decide (p ∈ l) = false) := Lib.hid (decide_eq_false (fun h => by
    obtain ⟨i,hi⟩ := List.getElem?_of_mem h
    exact HNO.out i (List.getElem?_eq_some_iff.1 hi).1 _ hi rfl))
   go_wp2_with fail
   go_ret
   exact ⟨by rw [HM.out]; rfl,rfl⟩
theorem rwaits_ok {v : Value} (l : List Asker) (p : Int) (w : World) (hr : Rd 2 w v l.length (askers l)) (hl : l.length ≤ 1000000) :
  Calls Try.prog 116 #[v,.int .i64 p] w fun e w' => e = .returned (.bool (l.any (isProp p))) ∧ w' = w := by
 obtain ⟨A,cap,rfl,hn1,hn2⟩ := hr.slice
 unfold maxLen at hn2
 have HR := Lib.hid hr
 clear hr
 go_enter Try.func116,Try.ntmps116
 go_wp2_with fail
 go_loop [5] (fun i => ∃ n : Nat,n ≤ l.length ∧ i = .int .i64 n ∧ Hid (∀ i < n,∀ x,l[i]? = some x → isProp p x = false)) (fun i => l.length - (intOf i).toNat)
 case atStart => exact ⟨0,Nat.zero_le _,rfl,Lib.hid (fun i hi => by omega)⟩
 case round =>
  obtain ⟨n,hn,rfl,HNO⟩ := hrel
  by_cases hlt : n < l.length
  ·obtain ⟨⟨xp,xl⟩,hx⟩ : ∃ c,l[n]? = some c := ⟨_,List.getElem?_eq_getElem hlt⟩
   obtain ⟨ab,aoff,acap',he,_,_,hac⟩ := Rd.elem (enc := Asker.cells) HR.out (fun _ => rfl) (by decide) hx
   injection he with he _ he2
   subst he he2
   have a0 : w.cell? ⟨ab,aoff + n * 2,none⟩ = some (.int .i64 xp) := hac 0 _ rfl
   have i1 : (0 : Int) ≤ (n : Int) := by omega
   have i2 : (n : Int) < (l.length : Int) := by omega
   have HX := Lib.hid hx
   clear hx hac
   by_cases e : xp = p
   ·subst e
    have HM : Hid (l.any (isProp xp) = true) := Lib.hid (List.any_eq_true.2 ⟨_,List.mem_of_getElem? HX.out,by simp [isProp]⟩)
    go_wp2_with fail
    go_ret
    exact ⟨by rw [HM.out]; rfl,rfl⟩
   ·have q0 : (xp == p) = false := by simpa using e
    have HE := Lib.hid q0
    clear e
    go_wp2_with fail
    go_round
    case rel => exact ⟨n + 1,by omega,by go_num,Lib.hid (fun i hi y hy => by
     rcases Nat.lt_succ_iff_lt_or_eq.1 hi with h | h
     ·exact HNO.out i h y hy
     ·subst h; rw [HX.out] at hy; injection hy with hy; rw [← hy]; exact HE.out)⟩
    case measure => simp [intOf]; omega
  ·have hnn : n = l.length := by omega
   subst hnn
   have HM : Hid (l.any (isProp p) = false) := Lib.hid (by
    rw [List.any_eq_false]
    intro x hx
    obtain ⟨i,hi⟩ := List.getElem?_of_mem hx
    rw [HNO.out i (List.getElem?_eq_some_iff.1 hi).1 _ hi]
    decide)
   go_wp2_with fail
   go_ret
   exact ⟨by rw [HM.out]; rfl,rfl⟩
theorem rback_ok {tag : Nat → Tag} (m : Post) (k p t : Int) (w : World) (hok : TagOk tag w) :
  Calls Try.prog 117 #[Post.val m,.int .i64 k,.int .i64 p,.int .i64 t] w fun e w' => e = .returned (Post.val ⟨k,m.dst,t,p,m.item,0⟩) ∧ Fr (fun _ => False) tag tag w w' := by
 obtain ⟨x0,x1,x2,x3,x4,x5⟩ := m
 show Calls Try.prog 117 #[.agg #[.int .i64 x0,.int .i64 x1,.int .i64 x2,.int .i64 x3,.int .i64 x4,.int .i64 x5],.int .i64 k,.int .i64 p,.int .i64 t] w _
 go_enter Try.func117,Try.ntmps117
 go_wp2_with fail
 refine bodyPost_ret (v:=.agg #[.int .i64 k,.int .i64 x2,.int .i64 t,.int .i64 p,.int .i64 x4,.int .i64 0]) (by simp [results,Try.results117,go_sem]) rfl ⟨rfl,(Fr.alloc hok _).al _⟩
end Go.Proofs.Ytclkokkppgchfaa
namespace Go.Ng
open Go Go.RowKit
theorem Fr.setCells {S : Tag → Prop} {tag : Nat → Tag} {b : Nat} (hb : S (tag b)) : ∀ (vs : List Value) (o : Nat) (w : World),TagOk tag w → Fr S tag tag w (w.setCells b o vs)
 | [],_,_,h => Fr.refl h
 | v :: r,o,w,h => (Fr.setCell h (a := ⟨b,o,none⟩) hb v).trans (Fr.setCells hb r (o + 1) _ (h.setCell _ _))
theorem Fr.frozen {S : Tag → Prop} {tag tag' : Nat → Tag} {w w' : World} (h : Fr S tag tag' w w') {a : Addr} (ha : a.block < w.heap.size) (hs : ¬ S (tag a.block)) : w'.frozen? a = w.frozen? a :=
 World.frozen?_of_block (h.block a.block ha hs)
structure ORow (tag : Nat → Tag) (t : Tag) (sz : Nat) (w : World) (v : Value) (n : Nat) (ks : List Value) : Prop where
 len : ks.length = n * sz
 one : ∀ u ∈ ks,u.oneCell' = true
 form : (∃ A : Option Addr,v = .slice A 0 0 ∧ n = 0 ∧ ∀ a,A = some a → a.spot = none) ∨
  ∃ b off cap,v = .slice (some ⟨b,off,none⟩) n cap ∧ tag b = t ∧ b < w.heap.size ∧ n ≤ cap ∧ cap ≤ maxLen ∧ (∀ j u,ks[j]? = some u → w.cell? ⟨b,off + j,none⟩ = some u) ∧
   ∀ j,j < cap * sz → (w.cell? ⟨b,off + j,none⟩).isSome = true ∧ w.frozen? ⟨b,off + j,none⟩ = false
section
variable {tag tag' : Nat → Tag} {t : Tag} {sz : Nat} {w w' : World} {v : Value} {n : Nat} {ks : List Value} {S : Tag → Prop}
theorem ORow.slice (h : ORow tag t sz w v n ks) : ∃ A cap,v = .slice A n cap ∧ n ≤ cap ∧ cap ≤ maxLen := by
 rcases h.form with ⟨A,rfl,rfl,_⟩ | ⟨b,off,cap,rfl,_,_,h1,h2,_⟩
 ·exact ⟨A,0,rfl,Nat.le_refl _,Nat.zero_le _⟩
 ·exact ⟨_,cap,rfl,h1,h2⟩
theorem ORow.fr (h : ORow tag t sz w v n ks) (hf : Fr S tag tag' w w') (hS : ¬ S t) : ORow tag' t sz w' v n ks := by
 refine ⟨h.len,h.one,?_⟩
 rcases h.form with h1 | ⟨b,off,cap,h1,h2,h3,h4,h5,h6,h7⟩
 ·exact .inl h1
 ·have hb : ¬ S (tag b) := by rw [h2]; exact hS
  refine .inr ⟨b,off,cap,h1,(hf.same b h3).trans h2,Nat.lt_of_lt_of_le h3 hf.size,h4,h5,fun j u hu => hf.cell (h6 j u hu) hb,fun j hj => ?_⟩
  obtain ⟨k1,k2⟩ := h7 j hj
  obtain ⟨x,hx⟩ := Option.isSome_iff_exists.1 k1
  exact ⟨by rw [hf.cell hx hb]; rfl,(hf.frozen (a := ⟨b,off + j,none⟩) h3 hb).trans k2⟩
theorem ORow.rd (h : ORow tag t sz w v n ks) : Rd sz w v n ks := by
 refine ⟨h.len,h.one,?_⟩
 rcases h.form with ⟨A,rfl,rfl,hA⟩ | ⟨b,off,cap,h1,h2,h3,h4,h5,h6,h7⟩
 ·cases A with
  | none => exact .inl ⟨rfl,rfl⟩
  | some a =>
   have h3 := hA a rfl
   have hk : ks = [] := List.eq_nil_of_length_eq_zero (by have := h.len; omega)
   refine .inr ⟨a.block,a.off,0,?_,Nat.le_refl _,Nat.zero_le _,by simp [hk]⟩
   cases a
   simp at h3
   subst h3
   rfl
 ·exact .inr ⟨b,off,cap,h1,h4,h5,h6⟩
theorem Row.orow {E : TypeId} (h : Row tag t E sz w v n ks) (h1 : ∀ u ∈ ks,u.oneCell' = true) : ORow tag t sz w v n ks := by
 refine ⟨h.len,h1,?_⟩
 rcases h with ⟨h,ht⟩ | ⟨⟨A,rfl,hA⟩,rfl,rfl⟩
 ·rcases h.2 with ⟨rfl,rfl⟩ | ⟨g,cap,cur,rfl,_,hg,h2,h3,h4,h5⟩
  ·exact .inl ⟨none,rfl,rfl,by simp⟩
  ·refine .inr ⟨g,0,cap,rfl,ht g rfl,lt_of_heap hg,h2,h3,fun j u hu => ?_,fun j hj => ?_⟩
   ·rw [Nat.zero_add,cell_of hg]
    have hj := (List.getElem?_eq_some_iff.1 hu).1
    rw [← h5,List.getElem?_take] at hu
    split at hu
    ·simpa using hu
    ·cases hu
   ·rw [Nat.zero_add]
    refine ⟨?_,free_of hg j⟩
    rw [cell_of hg,Array.getElem?_eq_getElem (by omega)]
    rfl
 ·exact .inl ⟨A,rfl,rfl,fun a ha => (hA a ha).2⟩
theorem ORow.nil (tag : Nat → Tag) (t : Tag) (sz : Nat) (w : World) : ORow tag t sz w (.slice none 0 0) 0 [] := ⟨by simp,by simp,.inl ⟨none,rfl,rfl,by simp⟩⟩
theorem ORow.tail {b off cap : Nat} (h : ORow tag t sz w (.slice (some ⟨b,off,none⟩) (n + 1) cap) (n + 1) ks) (hc : 1 < cap) : ORow tag t sz w (.slice (some ⟨b,off + sz,none⟩) n (cap - 1)) n (ks.drop sz) := by
 have hl := h.len
 have e1 : (n + 1) * sz = n * sz + sz := by rw [Nat.add_mul,Nat.one_mul]
 refine ⟨by rw [List.length_drop,hl]; omega,fun u hu => h.one u (List.mem_of_mem_drop hu),?_⟩
 rcases h.form with ⟨A,hv,h0,_⟩ | ⟨b',off',cap',hv,h2,h3,h4,h5,h6,h7⟩
 ·omega
 ·injection hv with hv _ hv2
  injection hv with hv
  injection hv with hv1 hv3
  subst hv1 hv2 hv3
  refine .inr ⟨b,off + sz,cap - 1,rfl,h2,h3,by omega,by omega,fun j u hu => ?_,fun j hj => ?_⟩
  ·rw [List.getElem?_drop] at hu
   rw [Nat.add_assoc]
   exact h6 _ _ hu
  ·rw [Nat.add_assoc]
   have e2 : cap * sz = (cap - 1) * sz + sz := by rw [← Nat.succ_mul]; congr 1; omega
   exact h7 _ (by omega)
theorem ORow.tail1 {b off : Nat} (h : ORow tag t sz w (.slice (some ⟨b,off,none⟩) (n + 1) 1) (n + 1) ks) : n = 0 ∧ ORow tag t sz w (.slice (some ⟨b,off,none⟩) 0 0) 0 (ks.drop sz) := by
 have h0 : n = 0 := by
  obtain ⟨A,cap,hv,h1,_⟩ := h.slice
  injection hv with _ _ hv
  omega
 subst h0
 refine ⟨rfl,⟨?_,fun u hu => h.one u (List.mem_of_mem_drop hu),.inl ⟨_,rfl,rfl,fun a ha => by injection ha with ha; rw [← ha]⟩⟩⟩
 have := h.len
 rw [List.length_drop]; omega
end
section
variable {P : Program} {ops : Array Oper} {Q : Exit → Act → World → Prop} {tag : Nat → Tag} {t : Tag} {sz : Nat} {w : World} {v : Value} {n : Nat} {ks : List Value}
theorem ORow.append_run {E : TypeId} (h : ORow tag t sz w v n ks) (hok : TagOk tag w) (T ty : TypeId) (i : TypeInfo) (z : Value) (bytes : Nat) (hT : P.underlying T = some (.slice E)) (hi : P.info? E = some i) (hz : i.zero = some z)
  (hsize : i.size = sz) (hby : i.bytes = bytes) (hzs : z.cells.size = sz) (hsz : 0 < sz)
  (ad : Addr) (m c : Nat) (news : List Value) (hl : news.length = m * sz) (hnews : ∀ j u,news[j]? = some u → w.cell? (ad.add j) = some u) (h1 : ∀ u ∈ news,u.oneCell' = true)
  (hm : 0 < m) (h63 : n + m ≤ maxLen) (hbytes : (n + m) * bytes ≤ 140737488355328) :
  ∃ A cap w' tag',(Builtin.append_ #[T,T] ty #[v,.slice (some ad) m c]).run P w = .ok (.slice A (n + m) cap) w' ∧
   ORow tag' t sz w' (.slice A (n + m) cap) (n + m) (ks ++ news) ∧ Fr (· = t) tag tag' w w' := by
 have hone : ∀ u ∈ ks ++ news,u.oneCell' = true := fun u hu => (List.mem_append.1 hu).elim (h.one u) (h1 u)
 rcases h.form with ⟨A,rfl,rfl,hA⟩ | ⟨b,off,cap,rfl,h2,h3,h4,h5,h6,h7⟩
 ·obtain rfl : ks = [] := List.eq_nil_of_length_eq_zero (by have := h.len; omega)
  obtain ⟨g,cap,w',tag',hr,k1,k2,_⟩ := append_bare_run (P := P) t A hok T ty i z bytes hT hi hz hsize hby hzs hsz ad m c news hl hnews h1 hm (by omega) (by simpa using hbytes)
  refine ⟨some ⟨g,0,none⟩,cap,w',tag',by simpa using hr,by simpa using k1.orow h1,k2.mono (fun _ x => x.elim)⟩
 ·by_cases hr : n + m ≤ cap
  ·subst hsize
   have hmc : n * i.size + news.length ≤ cap * i.size := by rw [hl,← Nat.add_mul]; exact Nat.mul_le_mul_right _ hr
   have hrun := run_append_room_cells (P := P) w T ty E i hT hi b off n cap ad m c news hl hnews h1 hr (fun j hj => by rw [Nat.add_assoc]; exact (h7 _ (by omega)).1) (fun j hj => by rw [Nat.add_assoc]; exact (h7 _ (by omega)).2)
   have hF : Fr (· = t) tag tag w (w.setCells b (off + n * i.size) news) := Fr.setCells h2 news _ w hok
   refine ⟨_,cap,_,tag,hrun,⟨?_,hone,.inr ⟨b,off,cap,rfl,h2,Nat.lt_of_lt_of_le h3 hF.size,hr,h5,fun j u hu => ?_,fun j hj => ?_⟩⟩,hF⟩
   ·rw [List.length_append,h.len,hl,← Nat.add_mul]
   ·by_cases hj : j < ks.length
    ·rw [List.getElem?_append_left hj] at hu
     rw [World.cell?_setCells_out b _ _ _ _ (fun _ _ => .inl (by have := h.len; simp; omega))]
     exact h6 j u hu
    ·rw [List.getElem?_append_right (by omega)] at hu
     obtain ⟨hj1,hj2⟩ := List.getElem?_eq_some_iff.1 hu
     have hjl := h.len
     have := World.cell?_setCells_in b news (off + n * i.size) w (fun j hj => by rw [Nat.add_assoc]; exact (h7 _ (by omega)).1) (j - ks.length) hj1
     rw [show off + j = off + n * i.size + (j - ks.length) by omega,this,hj2]
   ·obtain ⟨k1,k2⟩ := h7 j hj
    exact ⟨World.isSome_setCells b _ _ _ _ k1,by rw [World.frozen?_setCells]; exact k2⟩
  ·obtain ⟨v',w',hr',k5,k6⟩ := run_append_arg_grows (P := P) w T ty E i z sz bytes hT hi hz hsize hby hzs hsz ⟨b,off,none⟩ n cap ks h.len (fun j u hu => by rw [add_lit]; exact h6 j u hu) ad m c news hl hnews (by omega) h63 hbytes
   obtain ⟨g,cap',rfl,hb,hlt⟩ := k5.form (by omega)
   have hrow : Row (give tag g t) t E sz w' (.slice (some ⟨g,0,none⟩) (n + m) cap') (n + m) (ks ++ news) := by
    refine .inl ⟨?_,fun b hb => ?_⟩
    ·rcases k5.2 with ⟨hx,_⟩ | ⟨g',cap',cur,hv,_,rest⟩
     ·cases hx
     ·exact ⟨k5.1,.inr ⟨g',cap',cur,hv,Nat.zero_le _,rest⟩⟩
    ·simp [Value.ownBlock] at hb
     subst hb
     exact give_at _ _ _
   refine ⟨_,cap',w',give tag g t,hr',hrow.orow hone,⟨k6.os,k6.tape,k6.output,k6.size,fun b hb => give_ne _ _ (by omega),fun b hb hs => k6.block b hb (by simp),fun b hb => ?_⟩⟩
   by_cases e : b = g
   ·omega
   ·rw [give_ne _ _ e] at hb
    exact Nat.lt_of_lt_of_le (hok b hb) k6.size
theorem oappend_arm {oi : Oper} {N : Option Tmp} {a : Act} {K : Act → World → Prop} (hw : Region.wanted oi (yielded ops a.tmps) = true) (hN : oi.dst = N) (s x : Operand) (T : TypeId)
  (hop : oi.op = .call { callee := .builtin .append,args := #[s,x],argTypes := #[T,T] }) (hs : a.eval s = v) {ad : Addr} {m c : Nat} (hx : a.eval x = .slice (some ad) m c)
  {E : TypeId} (h : ORow tag t sz w v n ks) (hok : TagOk tag w) {i : TypeInfo} {z : Value} {bytes : Nat} (hT : P.underlying T = some (.slice E)) (hi : P.info? E = some i) (hz : i.zero = some z)
  (hsize : i.size = sz) (hby : i.bytes = bytes) (hzs : z.cells.size = sz) (hsz : 0 < sz)
  (news : List Value) (hl : news.length = m * sz) (hnews : ∀ j u,news[j]? = some u → w.cell? (ad.add j) = some u) (h1 : ∀ u ∈ news,u.oneCell' = true)
  (hm : 0 < m) (h63 : n + m ≤ maxLen) (hbytes : (n + m) * bytes ≤ 140737488355328)
  (hk : ∀ A cap w' tag',ORow tag' t sz w' (.slice A (n + m) cap) (n + m) (ks ++ news) → Fr (· = t) tag tag' w w' → K (a.put N (.slice A (n + m) cap)) w') :
  if Region.wanted oi (yielded ops a.tmps) = true then Oper.wp P oi a w K Q else K (a.put N undef) w := by
 rw [if_pos hw]
 subst hN
 obtain ⟨A,cap,w',tag',hr,h2,h3⟩ := h.append_run (P := P) hok T oi.type i z bytes hT hi hz hsize hby hzs hsz ad m c news hl hnews h1 hm h63 hbytes
 unfold Oper.wp execOp
 simp only [hop,resolve,invoke,builtin,Sem.run_bind,Sem.run_pure,Result.andThen_ok,List.map_toArray,List.map_cons,List.map_nil,hs,hx,hr]
 exact hk A cap w' tag' h2 h3
theorem oappend_list {rest : List Oper} {oi : Oper} {a : Act} (hg : oi.guard = none) (s x : Operand) (T : TypeId)
  (hop : oi.op = .call { callee := .builtin .append,args := #[s,x],argTypes := #[T,T] }) (hs : a.eval s = v) {ad : Addr} {m c : Nat} (hx : a.eval x = .slice (some ad) m c)
  {E : TypeId} (h : ORow tag t sz w v n ks) (hok : TagOk tag w) {i : TypeInfo} {z : Value} {bytes : Nat} (hT : P.underlying T = some (.slice E)) (hi : P.info? E = some i) (hz : i.zero = some z)
  (hsize : i.size = sz) (hby : i.bytes = bytes) (hzs : z.cells.size = sz) (hsz : 0 < sz)
  (news : List Value) (hl : news.length = m * sz) (hnews : ∀ j u,news[j]? = some u → w.cell? (ad.add j) = some u) (h1 : ∀ u ∈ news,u.oneCell' = true)
  (hm : 0 < m) (h63 : n + m ≤ maxLen) (hbytes : (n + m) * bytes ≤ 140737488355328)
  (hk : ∀ A cap w' tag',ORow tag' t sz w' (.slice A (n + m) cap) (n + m) (ks ++ news) → Fr (· = t) tag tag' w w' → wpList P ops Q rest (a.put oi.dst (.slice A (n + m) cap)) w') :
  wpList P ops Q (oi :: rest) a w :=
 wpList_plain hg fun K hK => by
  have hw : Region.wanted oi (yielded ops a.tmps) = true := by simp [Region.wanted,hg]
  have := oappend_arm (P := P) (ops := ops) (Q := Q) (K := K) hw rfl s x T hop hs hx h hok hT hi hz hsize hby hzs hsz news hl hnews h1 hm h63 hbytes (fun A cap w' tag' h2 h3 => hK _ _ (hk A cap w' tag' h2 h3))
  rw [if_pos hw] at this
  exact this
end
end Go.Ng
namespace Go.Proofs.Ytclkokkppgchfaa
open Go.RowKit Go.Ng Go.Proofs.YtclkokkppgchfaaW.PrintLast
def Owned (tag : Nat → Tag) (w : World) (t : Tag) (v : Value) : Prop := ∀ b off m cap,v = .slice (some ⟨b,off,none⟩) m cap → tag b = t ∧ b < w.heap.size
section
variable {S : Tag → Prop} {tag tag' : Nat → Tag} {w w' : World} {t : Tag} {v : Value}
theorem Owned.fr (h : Owned tag w t v) (hf : Fr S tag tag' w w') : Owned tag' w' t v := fun b off m cap hv => by
 obtain ⟨h1,h2⟩ := h b off m cap hv
 exact ⟨by rw [hf.same b h2]; exact h1,Nat.lt_of_lt_of_le h2 hf.size⟩
theorem _root_.Go.Ng.Rd.owned {sz : Nat} {n : Nat} {ks : List Value} (h : Rd sz w v n ks) (ho : Owned tag w t v) (hf : Fr S tag tag' w w') (hS : ¬ S t) : Rd sz w' v n ks := by
 refine ⟨h.len,h.one,?_⟩
 rcases h.form with ⟨h1,h2⟩ | ⟨b,off,cap,h1,h2,h3,h4⟩
 ·exact .inl ⟨h1,h2⟩
 ·exact .inr ⟨b,off,cap,h1,h2,h3,fun j u hu => hf.cell (h4 j u hu) (by rw [(ho b off n cap h1).1]; exact hS)⟩
theorem Row.owned {E sz n : Nat} {ks : List Value} (h : Row tag t E sz w v n ks) (hn : 0 < n) (hsz : 0 < sz) : Owned tag w t v := fun b off m cap hv => by
 obtain ⟨b',h1,h2,h3,_⟩ := h.cell hv (j:=0) (by rw [h.len]; exact Nat.mul_pos hn hsz)
 cases h1
 exact ⟨h2,h3⟩
end
structure RIt where
 ver : Int
 hold : Int
 wv : Value
 tv : Value
def RIt.cells (x : RIt) : List Value := [.int .i64 x.ver,.int .i64 x.hold,x.wv,x.tv]
structure RItem (tag : Nat → Tag) (k : Nat) (w : World) (j : Nat) (it : ItemM) (x : RIt) : Prop where
 ver : x.ver = it.version
 hold : x.hold = if it.held = true then it.lk.prop else -1
 wr : ORow tag (k,6,(j : Int)) 2 w x.wv it.queue.length (askers it.queue)
 thr : Row tag (k,7,(j : Int)) 3 1 w x.tv it.through.length (ints it.through)
def RItemO (tag : Nat → Tag) (k : Nat) (w : World) (j : Nat) : Option ItemM → RIt → Prop
 | some it,x => RItem tag k w j it x
 | none,x => x = ⟨0,-1,.slice none 0 0,.slice none 0 0⟩
structure RPr where
 no : Int
 cv : Value
 st : Int
 got : Int
def RPr.cells (x : RPr) : List Value := [.int .i64 x.no,x.cv,.int .i64 x.st,.int .i64 x.got]
structure RProp (tag : Nat → Tag) (k : Nat) (w : World) (i : Nat) (n : Int) (y : PropM) (x : RPr) : Prop where
 no : x.no = n
 st : x.st = y.state
 got : x.got = y.granted
 cr : Rd 2 w x.cv y.claims.length (claims y.claims)
 ct : Owned tag w (k,5,(i : Int)) x.cv
structure RPRep (tag : Nat → Tag) (k : Nat) (w : World) (p : Nat) (P : PlaceM) : Prop where
 k0 : k ≠ 0
 ptr : tag p = (k,1,0)
 cells : ∃ av iv pv,w.heap[p]? = some (.cells #[.int .i64 P.no,av,iv,pv] 125 (0,0)) ∧ Row tag (k,2,0) 3 1 w av P.sites.length (ints P.sites) ∧
  (∃ its : List RIt,its.length = P.items.length ∧ Row tag (k,3,0) 128 4 w iv its.length (its.flatMap RIt.cells) ∧ ∀ (j : Nat) o x,P.items[j]? = some o → its[j]? = some x → RItemO tag k w j o x) ∧
  (∃ prs : List RPr,prs.length = P.props.length ∧ Row tag (k,4,0) 140 4 w pv prs.length (prs.flatMap RPr.cells) ∧ ∀ (i : Nat) n y x,P.props[i]? = some (n,y) → prs[i]? = some x → RProp tag k w i n y x)
section
variable {S : Tag → Prop} {tag tag' : Nat → Tag} {w w' : World} {k p : Nat} {P : PlaceM}
theorem RItem.fr {j : Nat} {it : ItemM} {x : RIt} (h : RItem tag k w j it x) (hf : Fr S tag tag' w w') (hS : ∀ r i,¬ S (k,r,i)) : RItem tag' k w' j it x := by
 exact ⟨h.ver,h.hold,h.wr.fr hf (hS _ _),h.thr.fr hf (hS _ _)⟩
theorem RItemO.fr {j : Nat} {o : Option ItemM} {x : RIt} (h : RItemO tag k w j o x) (hf : Fr S tag tag' w w') (hS : ∀ r i,¬ S (k,r,i)) : RItemO tag' k w' j o x := by
 cases o with
 | none => exact h
 | some it => exact RItem.fr h hf hS
theorem RProp.fr {i : Nat} {n : Int} {y : PropM} {x : RPr} (h : RProp tag k w i n y x) (hf : Fr S tag tag' w w') (hS : ∀ r i,¬ S (k,r,i)) : RProp tag' k w' i n y x :=
 ⟨h.no,h.st,h.got,h.cr.owned h.ct hf (hS _ _),h.ct.fr hf⟩
theorem RPRep.fr (h : RPRep tag k w p P) (hf : Fr S tag tag' w w') (hS : ∀ r i,¬ S (k,r,i)) : RPRep tag' k w' p P := by
 obtain ⟨av,iv,pv,h1,h2,⟨its,h3,h4,h5⟩,prs,h6,h7,h8⟩ := h.cells
 exact ⟨h.k0,(hf.tag_eq h1).trans h.ptr,av,iv,pv,hf.heap h1 (by rw [h.ptr]; exact hS _ _),h2.fr hf (hS _ _),⟨its,h3,h4.fr hf (hS _ _),fun j it x a b => (h5 j it x a b).fr hf hS⟩,prs,h6,h7.fr hf (hS _ _),fun i n y x a b => (h8 i n y x a b).fr hf hS⟩
theorem RPRep.frF (h : RPRep tag k w p P) (hf : Fr (fun _ => False) tag tag' w w') : RPRep tag' k w' p P := h.fr hf (fun _ _ x => x)
def idxR (n : Int) (l : List (Int × PropM)) : Int := match l.findIdx? (fun x => x.1 == n) with | some i => (i : Int) | none => -1
theorem idxR_at {n : Int} {l : List (Int × PropM)} {j : Nat} {y : PropM} (hx : l[j]? = some (n,y)) (hno : ∀ i < j,∀ x,l[i]? = some x → (x.1 == n) = false) : idxR n l = j := by
 obtain ⟨hj,hjx⟩ := (List.getElem?_eq_some_iff.1 hx)
 have : l.findIdx? (fun x => x.1 == n) = some j := by
  rw [List.findIdx?_eq_some_iff_getElem]
  refine ⟨hj,by rw [hjx]; simp,fun i hi => ?_⟩
  have hil : i < l.length := Nat.lt_trans hi hj
  rw [hno i hi _ (List.getElem?_eq_getElem hil)]
  decide
 simp [idxR,this]
theorem idxR_none {n : Int} {l : List (Int × PropM)} (hno : ∀ i < l.length,∀ x,l[i]? = some x → (x.1 == n) = false) : idxR n l = -1 := by
 have : l.findIdx? (fun x => x.1 == n) = none := by
  rw [List.findIdx?_eq_none_iff]
  intro x hx
  obtain ⟨i,hi,rfl⟩ := List.getElem_of_mem hx
  exact hno i hi _ (List.getElem?_eq_getElem hi)
 simp [idxR,this]
theorem rfind_ok (n : Int) (h : RPRep tag k w p P) :
  Calls Try.prog 74 #[.pointer (some ⟨p,0,none⟩),.int .i64 n] w fun e w' => e = .returned (.int .i64 (idxR n P.props)) ∧ w' = w := by
 obtain ⟨av,iv,pv,h1,_,_,prs,h6,h7,h8⟩ := h.cells
 obtain ⟨PA,pcap,rfl,q1,q2⟩ := h7.form
 unfold maxLen at q2
 have c3 : w.cell? ⟨p,3,none⟩ = some (.slice PA prs.length pcap) := cell_of h1 3
 have H7 := Lib.hid h7
 have H8 := Lib.hid h8
 have H6 := Lib.hid h6
 clear h h1 h7 h8
 go_enter Try.func74,Try.ntmps74
 go_wp2_with fail
 go_loop [5] (fun i => ∃ m : Nat,m ≤ prs.length ∧ i = .int .i64 m ∧ Hid (∀ i < m,∀ x,P.props[i]? = some x → (x.1 == n) = false)) (fun i => prs.length - (intOf i).toNat)
 case atStart => exact ⟨0,Nat.zero_le _,rfl,Lib.hid (fun i hi => by omega)⟩
 case round =>
  obtain ⟨m,hm,rfl,HNO⟩ := hrel
  by_cases hlt : m < prs.length
  ·obtain ⟨⟨xn,xc,xs,xg⟩,hx⟩ : ∃ c,prs[m]? = some c := ⟨_,List.getElem?_eq_getElem hlt⟩
   obtain ⟨⟨yn,y⟩,hy⟩ : ∃ c,P.props[m]? = some c := ⟨_,List.getElem?_eq_getElem (by have := H6.out; omega)⟩
   have hno : xn = yn := (H8.out m yn y _ hy hx).no
   subst hno
   obtain ⟨pb,rfl,_,_,hce⟩ := Row.elem (enc := RPr.cells) H7.out (fun _ => rfl) (by decide) hx
   have e0 : w.cell? ⟨pb,m * 4,none⟩ = some (.int .i64 xn) := hce 0 _ rfl
   have i1 : (0 : Int) ≤ (m : Int) := by omega
   have i2 : (m : Int) < (prs.length : Int) := by omega
   have HY := Lib.hid hy
   clear hce hx hy
   by_cases e : xn = n
   ·subst e
    have HI := Lib.hid (idxR_at HY.out HNO.out)
    go_wp2_with fail
    go_ret
    exact ⟨by rw [HI.out]; rfl,rfl⟩
   ·have q0 : (xn == n) = false := by simpa using e
    have HE := Lib.hid q0
    clear e
    go_wp2_with fail
    go_round
    case rel => exact ⟨m + 1,by omega,by go_num,Lib.hid (fun i hi x hx => by
     rcases Nat.lt_succ_iff_lt_or_eq.1 hi with h | h
     ·exact HNO.out i h x hx
     ·subst h; rw [HY.out] at hx; injection hx with hx; rw [← hx]; exact HE.out)⟩
    case measure => simp [intOf]; omega
  ·have hmm : m = prs.length := by omega
   subst hmm
   have HI : Hid (idxR n P.props = -1) := Lib.hid (idxR_none (fun i hi x hx => HNO.out i (by have := H6.out; omega) x hx))
   go_wp2_with fail
   go_ret
   exact ⟨by rw [HI.out]; rfl,rfl⟩
end
section
variable {S : Tag → Prop} {tag tag' : Nat → Tag} {w w' : World} {k p : Nat} {P : PlaceM}
def asksB (y : PropM) (item : Int) : Bool := y.state == 1 && (match y.claims[y.granted]? with | some c => c.item == item | none => false)
theorem rasks_ok {i : Nat} {n item : Int} {y : PropM} (h : RPRep tag k w p P) (hok : TagOk tag w) (hi : P.props[i]? = some (n,y)) (hg : y.state = 1 → y.granted < y.claims.length) :
  Calls Try.prog 118 #[.pointer (some ⟨p,0,none⟩),.int .i64 (i : Int),.int .i64 item] w fun e w' => e = .returned (.bool (asksB y item)) ∧ Fr (fun _ => False) tag tag w w' := by
 obtain ⟨av,iv,pv,h1,_,_,prs,h6,h7,h8⟩ := h.cells
 obtain ⟨PA,pcap,rfl,q1,q2⟩ := h7.form
 unfold maxLen at q2
 have c3 : w.cell? ⟨p,3,none⟩ = some (.slice PA prs.length pcap) := cell_of h1 3
 have hil : i < prs.length := by have := (List.getElem?_eq_some_iff.1 hi).1; omega
 obtain ⟨⟨xn,xc,xs,xg⟩,hx⟩ : ∃ c,prs[i]? = some c := ⟨_,List.getElem?_eq_getElem hil⟩
 have hr := h8 i n y _ hi hx
 obtain ⟨r1,r2,r3,r4,r5⟩ := hr
 simp only at r1 r2 r3 r4 r5
 subst r1 r2 r3
 obtain ⟨pb,rfl,_,_,hce⟩ := Row.elem (enc := RPr.cells) h7 (fun _ => rfl) (by decide) hx
 have e0 : w.cell? ⟨pb,i * 4,none⟩ = some (.int .i64 xn) := hce 0 _ rfl
 have e1 : w.cell? ⟨pb,i * 4 + 1,none⟩ = some xc := hce 1 _ rfl
 have e2 : w.cell? ⟨pb,i * 4 + 2,none⟩ = some (.int .i64 y.state) := hce 2 _ rfl
 have e3 : w.cell? ⟨pb,i * 4 + 3,none⟩ = some (.int .i64 (y.granted : Int)) := hce 3 _ rfl
 obtain ⟨CA,ccap,rfl,z1,z2⟩ := r4.slice
 unfold maxLen at z2
 have i1 : (0 : Int) ≤ (i : Int) := by omega
 have i2 : (i : Int) < (prs.length : Int) := by omega
 have hFa : Fr (fun _ => False) tag tag w (w.alloc (.cells #[.int .i64 xn,.slice CA y.claims.length ccap,.int .i64 y.state,.int .i64 (y.granted : Int)] 140)) := Fr.alloc hok _
 have HFa := Lib.hid hFa
 have HR4 := Lib.hid r4
 clear h h1 h7 h8 hce hx r4 r5 hi
 by_cases hs : y.state = 1
 ·have hgl := hg hs
  obtain ⟨⟨ci,cv⟩,hc⟩ : ∃ c,y.claims[y.granted]? = some c := ⟨_,List.getElem?_eq_getElem hgl⟩
  have hb : asksB y item = (ci == item) := by simp [asksB,hs,hc]
  obtain ⟨cb,coff,ccap',he,_,_,hac⟩ := Rd.elem (enc := Clm.cells) HR4.out (fun _ => rfl) (by decide) hc
  injection he with he _ he2
  subst he he2
  have f0 : (w.alloc (.cells #[.int .i64 xn,.slice (some ⟨cb,coff,none⟩) y.claims.length ccap,.int .i64 y.state,.int .i64 (y.granted : Int)] 140)).cell? ⟨cb,coff + y.granted * 2,none⟩ = some (.int .i64 ci) := hFa.cellF (hac 0 _ rfl)
  have HB := Lib.hid hb
  have s1 : (y.state == 1) = true := by simp [hs]
  have i3 : (0 : Int) ≤ (y.granted : Int) := by omega
  have i4 : (y.granted : Int) < (y.claims.length : Int) := by omega
  clear hg hs hc hac hb hFa
  go_enter Try.func118,Try.ntmps118
  go_wp2_with fail
  go_ret
  exact ⟨by rw [HB.out]; rfl,HFa.out⟩
 ·have hb : asksB y item = false := by simp [asksB,hs]
  have HB := Lib.hid hb
  have s1 : (y.state == 1) = false := by simpa using hs
  clear hg hs hb hFa
  go_enter Try.func118,Try.ntmps118
  go_wp2_with fail
  go_ret
  exact ⟨by rw [HB.out]; rfl,HFa.out⟩
end
section
variable {S : Tag → Prop} {tag tag' : Nat → Tag} {w w' : World} {k p : Nat} {P : PlaceM}
theorem rright_ok (l : List Clm) {v : Value} (h : RPRep tag k w p P) (hr : Rd 2 w v l.length (claims l)) (hok : TagOk tag w) :
  Calls Try.prog 73 #[.pointer (some ⟨p,0,none⟩),v] w fun e w' => e = .returned (.bool (claimedB P.sites.length l)) ∧ Fr (fun _ => False) tag tag w w' := by
 obtain ⟨av,iv,pv,g1,g2,_,_⟩ := h.cells
 obtain ⟨SA,scap,rfl,s1,s2⟩ := g2.form
 unfold maxLen at s2
 have c1 : w.cell? ⟨p,1,none⟩ = some (.slice SA P.sites.length scap) := cell_of g1 1
 clear g1 g2 h
 obtain ⟨vA,vcap,rfl,h1,h2⟩ := hr.slice
 unfold maxLen at h2
 have HR := Lib.hid hr
 clear hr
 by_cases hb : 1 ≤ l.length ∧ l.length ≤ 64
 ·have hcb : claimedB P.sites.length l = okFrom P.sites.length (-1) l := by simp [claimedB,hb]
  have HCB := Lib.hid hcb
  obtain ⟨hb1,hb2⟩ := hb
  have hi1 : (1 : Int) ≤ (l.length : Int) := by omega
  have hi2 : (l.length : Int) ≤ 64 := by omega
  clear hcb
  go_enter Try.func73,Try.ntmps73
  go_wp2
  go_loopw [6,5] (fun i la wr => ∃ (j : Nat) (last : Int),j ≤ l.length ∧ i = .int .i64 j ∧ la = .int .i64 last ∧ Hid (okFrom P.sites.length (-1) l = okFrom P.sites.length last (l.drop j)) ∧ Hid (Fr (fun _ => False) tag tag w wr)) (fun i _ _ => l.length - (intOf i).toNat)
  case atStart => exact ⟨0,-1,Nat.zero_le _,rfl,rfl,Lib.hid rfl,Lib.hid (Fr.refl hok)⟩
  case round =>
   obtain ⟨j,last,hj,rfl,rfl,HO,HF⟩ := hrel
   by_cases hlt : j < l.length
   ·obtain ⟨⟨ci,cver⟩,hx⟩ : ∃ c,l[j]? = some c := ⟨_,List.getElem?_eq_getElem hlt⟩
    obtain ⟨b,off,cap,hv,_,_,hce⟩ := Rd.elem (enc := Clm.cells) HR.out (fun _ => rfl) (by decide) hx
    injection hv with hv _ hv2
    subst hv hv2
    have e0 : wr.cell? ⟨b,off + j * 2,none⟩ = some (.int .i64 ci) := HF.out.cellF (hce 0 _ rfl)
    have e1 : wr.cell? ⟨b,off + j * 2 + 1,none⟩ = some (.int .i64 cver) := HF.out.cellF (hce 1 _ rfl)
    have d1 : (wr.alloc (.cells #[.int .i64 ci,.int .i64 cver] 69)).cell? ⟨p,1,none⟩ = some (.slice SA P.sites.length scap) := (HF.out.al _).cellF c1
    have hdr : l.drop j = ⟨ci,cver⟩ :: l.drop (j + 1) := by
     rw [List.drop_eq_getElem_cons hlt]
     congr 1
     exact (List.getElem?_eq_some_iff.1 hx).2
    have ho := HO.out
    rw [hdr] at ho
    have HO2 := Lib.hid ho
    have i5 : (0 : Int) ≤ (j : Int) := by omega
    have i6 : (j : Int) < (l.length : Int) := by omega
    have hokr := HF.out.dom
    have HA := Lib.hid (HF.out.al (.cells #[.int .i64 ci,.int .i64 cver] 69))
    clear hx hce hdr ho HO
    cases hb1 : decide (ci ≤ last)
    ·cases hb2 : decide ((P.sites.length : Int) ≤ ci)
     ·cases hb3 : decide (cver < 0)
      ·go_wp2_with fail
       go_quiet (fail)
       go_wp2
       go_roundw
       case rel =>
        refine ⟨j + 1,ci,by omega,by go_num,rfl,Lib.hid ?_,Lib.hid (HA.out.trans (Fr.drewN HA.out.dom _))⟩
        rw [HO2.out]
        simp at hb1 hb2 hb3
        simp [okFrom,hb1,hb2,hb3]
       case measure => simp [intOf]; omega
      ·go_wp2_with fail
       go_quiet (fail)
       go_wp2
       go_ret
       refine ⟨?_,HA.out.trans (Fr.drewN HA.out.dom _)⟩
       rw [HCB.out,HO2.out]
       simp at hb3
       have : ¬ 0 ≤ cver := by omega
       simp [okFrom,this]
     ·go_wp2_with fail
      go_quiet (fail)
      go_wp2
      go_ret
      refine ⟨?_,HA.out.trans (Fr.drewN HA.out.dom _)⟩
      rw [HCB.out,HO2.out]
      simp at hb2
      have : ¬ ci < P.sites.length := by omega
      simp [okFrom,this]
    ·go_wp2_with fail
     go_quiet (fail)
     go_wp2
     go_ret
     refine ⟨?_,HA.out.trans (Fr.drewN HA.out.dom _)⟩
     rw [HCB.out,HO2.out]
     simp at hb1
     have : ¬ last < ci := by omega
     simp [okFrom,this]
   ·have : j = l.length := by omega
    subst this
    go_wp2
    go_ret
    refine ⟨?_,HF.out⟩
    rw [HCB.out,HO.out,List.drop_length]
    rfl
 ·have hcb : claimedB P.sites.length l = false := by
   simp only [claimedB]
   by_cases h : 1 ≤ l.length
   ·have : ¬ l.length ≤ 64 := fun h' => hb ⟨h,h'⟩
    simp [this]
   ·simp [h]
  rw [hcb]
  clear hcb
  by_cases h : l.length = 0
  ·rw [h]
   go_enter Try.func73,Try.ntmps73
   go_wp2
   go_ret
   exact ⟨rfl,Fr.refl hok⟩
  ·have hi1 : (1 : Int) ≤ (l.length : Int) := by omega
   have hi2 : (64 : Int) < (l.length : Int) := by omega
   go_enter Try.func73,Try.ntmps73
   go_wp2
   go_ret
   exact ⟨rfl,Fr.refl hok⟩
end
section
variable {S : Tag → Prop} {tag tag' : Nat → Tag} {w w' : World} {k p : Nat} {P : PlaceM}
theorem Row.post1 (h : TagOk tag w) (T : Tag) (m : Post) : Row (give tag w.heap.size T) T 49 6 (w.alloc (.cells m.cells.toArray 49)) (.slice (some ⟨w.heap.size,0,none⟩) 1 1) 1 (posts [m]) := by
 have hp : posts [m] = m.cells.toArray.toList := by simp [posts]
 rw [hp]
 exact .inl ⟨World.ownsRow_lit (base := 0) _ _ 1 (Nat.zero_le _) (by unfold maxLen; omega) (by simp [Post.cells]),fun b hb => by simp [Value.ownBlock] at hb; rw [← hb]; exact give_at _ _ _⟩
theorem rask_ok {i m : Nat} {n cver : Int} {y : PropM} (T : Tag) (h : RPRep tag k w p P) (hok : TagOk tag w) (hi : P.props[i]? = some (n,y)) (hg : y.claims[y.granted]? = some ⟨(m : Int),cver⟩) (hm : m < P.sites.length) :
  Calls Try.prog 75 #[.pointer (some ⟨p,0,none⟩),.int .i64 (i : Int)] w fun e w' => ∃ ov tag',e = .returned ov ∧ Row tag' T 49 6 w' ov 1 (posts [⟨1,P.no,P.site m,n,m,cver⟩]) ∧ Fr (fun _ => False) tag tag' w w' := by
 obtain ⟨av,iv,pv,h1,h2,_,prs,h6,h7,h8⟩ := h.cells
 obtain ⟨PA,pcap,rfl,q1,q2⟩ := h7.form
 unfold maxLen at q2
 obtain ⟨sb,scap,rfl,s1,s2,sc⟩ := PRep.site_cell h2 hm
 unfold maxLen at s2
 have c0 : w.cell? ⟨p,0,none⟩ = some (.int .i64 P.no) := cell_of h1 0
 have c1 : w.cell? ⟨p,1,none⟩ = some (.slice (some ⟨sb,0,none⟩) P.sites.length scap) := cell_of h1 1
 have c3 : w.cell? ⟨p,3,none⟩ = some (.slice PA prs.length pcap) := cell_of h1 3
 have hil : i < prs.length := by have := (List.getElem?_eq_some_iff.1 hi).1; omega
 obtain ⟨⟨xn,xc,xs,xg⟩,hx⟩ : ∃ c,prs[i]? = some c := ⟨_,List.getElem?_eq_getElem hil⟩
 obtain ⟨r1,r2,r3,r4,r5⟩ := h8 i n y _ hi hx
 simp only at r1 r2 r3 r4 r5
 subst r1 r2 r3
 obtain ⟨pb,rfl,_,_,hce⟩ := Row.elem (enc := RPr.cells) h7 (fun _ => rfl) (by decide) hx
 have e0 : w.cell? ⟨pb,i * 4,none⟩ = some (.int .i64 xn) := hce 0 _ rfl
 have e1 : w.cell? ⟨pb,i * 4 + 1,none⟩ = some xc := hce 1 _ rfl
 have e2 : w.cell? ⟨pb,i * 4 + 2,none⟩ = some (.int .i64 y.state) := hce 2 _ rfl
 have e3 : w.cell? ⟨pb,i * 4 + 3,none⟩ = some (.int .i64 (y.granted : Int)) := hce 3 _ rfl
 obtain ⟨cb,coff,ccap,rfl,z1,z2,hac⟩ := Rd.elem (enc := Clm.cells) r4 (fun _ => rfl) (by decide) hg
 unfold maxLen at z2
 have i1 : (0 : Int) ≤ (i : Int) := by omega
 have i2 : (i : Int) < (prs.length : Int) := by omega
 have hgl := (List.getElem?_eq_some_iff.1 hg).1
 have i3 : (0 : Int) ≤ (y.granted : Int) := by omega
 have i4 : (y.granted : Int) < (y.claims.length : Int) := by omega
 have i5 : (0 : Int) ≤ (m : Int) := by omega
 have i6 : (m : Int) < (P.sites.length : Int) := by omega
 have hFa : Fr (fun _ => False) tag tag w (w.alloc (.cells #[.int .i64 xn,.slice (some ⟨cb,coff,none⟩) y.claims.length ccap,.int .i64 y.state,.int .i64 (y.granted : Int)] 140)) := Fr.alloc hok _
 have f0 : (w.alloc (.cells #[.int .i64 xn,.slice (some ⟨cb,coff,none⟩) y.claims.length ccap,.int .i64 y.state,.int .i64 (y.granted : Int)] 140)).cell? ⟨cb,coff + y.granted * 2,none⟩ = some (.int .i64 (m : Int)) := hFa.cellF (hac 0 _ rfl)
 have f1 : (w.alloc (.cells #[.int .i64 xn,.slice (some ⟨cb,coff,none⟩) y.claims.length ccap,.int .i64 y.state,.int .i64 (y.granted : Int)] 140)).cell? ⟨cb,coff + y.granted * 2 + 1,none⟩ = some (.int .i64 cver) := hFa.cellF (hac 1 _ rfl)
 have HFa := Lib.hid hFa
 clear hFa h h1 h2 h7 h8 hce hx r4 r5 hi hac hg
 go_enter Try.func75,Try.ntmps75
 go_wp2_with fail
 obtain ⟨wa,hwa⟩ : ∃ wa,wa = (w.alloc (.cells #[.int .i64 xn,.slice (some ⟨cb,coff,none⟩) y.claims.length ccap,.int .i64 y.state,.int .i64 (y.granted : Int)] 140)).alloc (.cells #[.int .i64 (m : Int),.int .i64 cver] 69) := ⟨_,rfl⟩
 rw [← hwa]
 have hFw : Fr (fun _ => False) tag tag w wa := by rw [hwa]; exact HFa.out.al _
 have b0 : wa.cell? ⟨w.heap.size,0,none⟩ = some (.int .i64 xn) := by rw [hwa]; go_simp
 have b1 : wa.cell? ⟨w.heap.size + 1,0,none⟩ = some (.int .i64 (m : Int)) := by rw [hwa]; go_simp
 have b2 : wa.cell? ⟨w.heap.size + 1,1,none⟩ = some (.int .i64 cver) := by rw [hwa]; go_simp
 have HFw := Lib.hid hFw
 clear hwa hFw f0 f1 HFa
 refine start_ (n:=21) (S:=fun w' => w'.cell? ⟨p,0,none⟩ = some (.int .i64 P.no) ∧ w'.cell? ⟨p,1,none⟩ = some (.slice (some ⟨sb,0,none⟩) P.sites.length scap) ∧ w'.cell? ⟨sb,m,none⟩ = some (.int .i64 (P.site m)) ∧ w'.cell? ⟨w.heap.size,0,none⟩ = some (.int .i64 xn) ∧ w'.cell? ⟨w.heap.size + 1,0,none⟩ = some (.int .i64 (m : Int)) ∧ w'.cell? ⟨w.heap.size + 1,1,none⟩ = some (.int .i64 cver)) (ds := []) #[f_,f_,f_,f_,f_,f_,f_,f_,f_,f_,f_,f_,f_,f_,f_,f_,f_,f_,f_,f_,f_] (by kernel_rfl) rfl rfl ⟨HFw.out.cellF c0,HFw.out.cellF c1,HFw.out.cellF sc,b0,b1,b2⟩ (fun hHeld => ?_)
 refine pv_ (i:=0) (N:=some 20) (v:=?_) (a':=?_) rfl rfl (by kernel_rfl) (fun _ _ _ h => h) (Or.inl ⟨by rfl,?_⟩) ?_ ?_
 rotate_left;intro w';go_simp;with_reducible rfl;rotate_left;simp only [Act.put,sA_,sB_,sC_,i64_w,i32_w];rfl
 refine pv_ (i:=1) (N:=some 21) (v:=?_) (a':=?_) rfl rfl (by kernel_rfl) (fun _ _ _ h => h) (Or.inl ⟨by rfl,?_⟩) ?_ ?_
 rotate_left;intro w';go_simp;with_reducible rfl;rotate_left;simp only [Act.put,sA_,sB_,sC_,i64_w,i32_w];rfl
 refine pv_ (i:=2) (N:=some 22) (v:=?_) (a':=?_) rfl rfl (by kernel_rfl) (fun _ _ _ h => h) (Or.inl ⟨by rfl,?_⟩) ?_ ?_
 rotate_left;intro w';go_simp;with_reducible rfl;rotate_left;simp only [Act.put,sA_,sB_,sC_,i64_w,i32_w];rfl
 refine pv_ (i:=4) (N:=some 24) (v:=?_) (a':=?_) rfl rfl (by kernel_rfl) (fun _ _ _ h => h) (Or.inl ⟨by rfl,?_⟩) ?_ ?_
 rotate_left;intro w';go_simp;with_reducible rfl;rotate_left;simp only [Act.put,sA_,sB_,sC_,i64_w,i32_w];rfl
 refine pv_ (i:=5) (N:=some 25) (v:=?_) (a':=?_) rfl rfl (by kernel_rfl) (fun _ _ _ h => h) (Or.inl ⟨by rfl,?_⟩) ?_ ?_
 rotate_left;intro w';go_simp;with_reducible rfl;rotate_left;simp only [Act.put,sA_,sB_,sC_,i64_w,i32_w];rfl
 refine pv_ (i:=6) (N:=some 26) (v:=?_) (a':=?_) rfl rfl (by kernel_rfl) (fun _ _ _ h => h) (Or.inl ⟨by rfl,?_⟩) ?_ ?_
 rotate_left;intro w';go_simp;with_reducible rfl;rotate_left;simp only [Act.put,sA_,sB_,sC_,i64_w,i32_w];rfl
 refine pv_ (i:=8) (N:=some 28) (v:=?_) (a':=?_) rfl rfl (by kernel_rfl) (fun _ _ _ h => h) (Or.inl ⟨by rfl,?_⟩) ?_ ?_
 rotate_left;intro w';go_simp;with_reducible rfl;rotate_left;simp only [Act.put,sA_,sB_,sC_,i64_w,i32_w];rfl
 refine pv_ (i:=12) (N:=some 32) (v:=?_) (a':=?_) rfl rfl (by kernel_rfl) (fun _ _ _ h => h) (Or.inl ⟨by rfl,?_⟩) ?_ ?_
 rotate_left;intro w';go_simp;with_reducible rfl;rotate_left;simp only [Act.put,sA_,sB_,sC_,i64_w,i32_w];rfl
 refine pv_ (i:=14) (N:=some 34) (v:=?_) (a':=?_) rfl rfl (by kernel_rfl) (fun _ _ _ h => h) (Or.inl ⟨by rfl,?_⟩) ?_ ?_
 rotate_left;intro w';go_simp;with_reducible rfl;rotate_left;simp only [Act.put,sA_,sB_,sC_,i64_w,i32_w];rfl
 refine pv_ (i:=16) (N:=some 36) (v:=?_) (a':=?_) rfl rfl (by kernel_rfl) (fun _ _ _ h => h) (Or.inl ⟨by rfl,?_⟩) ?_ ?_
 rotate_left;intro w';go_simp;with_reducible rfl;rotate_left;simp only [Act.put,sA_,sB_,sC_,i64_w,i32_w];rfl
 refine tv_ (i:=3) (N:=some 23) (v:=?_) (a':=?_) rfl rfl (by kernel_rfl) (fun _ _ _ h => h) (Or.inl ⟨by rfl,?_⟩) hHeld ?_ ?_
 rotate_left;rintro w' ⟨s0,s1,s2,s3,s4,s5⟩;go_simp;with_reducible rfl;rotate_left;simp only [Act.put,sA_,sB_,sC_,i64_w,i32_w];rfl
 refine tv_ (i:=7) (N:=some 27) (v:=?_) (a':=?_) rfl rfl (by kernel_rfl) (fun _ _ _ h => h) (Or.inl ⟨by rfl,?_⟩) hHeld ?_ ?_
 rotate_left;rintro w' ⟨s0,s1,s2,s3,s4,s5⟩;go_simp;with_reducible rfl;rotate_left;simp only [Act.put,sA_,sB_,sC_,i64_w,i32_w];rfl
 refine tv_ (i:=9) (N:=some 29) (v:=?_) (a':=?_) rfl rfl (by kernel_rfl) (fun _ _ _ h => h) (Or.inl ⟨by rfl,?_⟩) hHeld ?_ ?_
 rotate_left;rintro w' ⟨s0,s1,s2,s3,s4,s5⟩;go_simp;with_reducible rfl;rotate_left;simp only [Act.put,sA_,sB_,sC_,i64_w,i32_w];rfl
 refine pv_ (i:=10) (N:=some 30) (v:=?_) (a':=?_) rfl rfl (by kernel_rfl) (fun _ _ _ h => h) (Or.inl ⟨by rfl,?_⟩) ?_ ?_
 rotate_left;intro w';go_simp;with_reducible rfl;rotate_left;simp only [Act.put,sA_,sB_,sC_,i64_w,i32_w];rfl
 refine tv_ (i:=11) (N:=some 31) (v:=?_) (a':=?_) rfl rfl (by kernel_rfl) (fun _ _ _ h => h) (Or.inl ⟨by rfl,?_⟩) hHeld ?_ ?_
 rotate_left;rintro w' ⟨s0,s1,s2,s3,s4,s5⟩;go_simp;with_reducible rfl;rotate_left;simp only [Act.put,sA_,sB_,sC_,i64_w,i32_w];rfl
 refine tv_ (i:=13) (N:=some 33) (v:=?_) (a':=?_) rfl rfl (by kernel_rfl) (fun _ _ _ h => h) (Or.inl ⟨by rfl,?_⟩) hHeld ?_ ?_
 rotate_left;rintro w' ⟨s0,s1,s2,s3,s4,s5⟩;go_simp;with_reducible rfl;rotate_left;simp only [Act.put,sA_,sB_,sC_,i64_w,i32_w];rfl
 refine tv_ (i:=15) (N:=some 35) (v:=?_) (a':=?_) rfl rfl (by kernel_rfl) (fun _ _ _ h => h) (Or.inl ⟨by rfl,?_⟩) hHeld ?_ ?_
 rotate_left;rintro w' ⟨s0,s1,s2,s3,s4,s5⟩;go_simp;with_reducible rfl;rotate_left;simp only [Act.put,sA_,sB_,sC_,i64_w,i32_w];rfl
 refine tv_ (i:=17) (N:=some 37) (v:=?_) (a':=?_) rfl rfl (by kernel_rfl) (fun _ _ _ h => h) (Or.inl ⟨by rfl,?_⟩) hHeld ?_ ?_
 rotate_left;rintro w' ⟨s0,s1,s2,s3,s4,s5⟩;go_simp;with_reducible rfl;rotate_left;simp only [Act.put,sA_,sB_,sC_,i64_w,i32_w];rfl
 refine pv_ (i:=18) (N:=some 38) (v:=?_) (a':=?_) rfl rfl (by kernel_rfl) (fun _ _ _ h => h) (Or.inl ⟨by rfl,?_⟩) ?_ ?_
 rotate_left;intro w';go_simp;with_reducible rfl;rotate_left;simp only [Act.put,sA_,sB_,sC_,i64_w,i32_w];rfl
 refine one_ (i:=19) (N:=some 39) #[t_,t_,t_,t_,t_,t_,t_,t_,t_,t_,t_,t_,t_,t_,t_,t_,t_,t_,t_,t_,f_] rfl rfl (by kernel_rfl) (by decide) (fun K hK => ?_)
 refine value_ (w1:=?_) (v:=?_) (by rfl) rfl ?_ ?_
 rotate_left 2
 ·go_simp
  constructor
  ·rfl
  ·rfl
 refine hK.out _ _ ⟨(ca hHeld.1 _),(ca hHeld.2.1 _),(ca hHeld.2.2.1 _),(ca hHeld.2.2.2.1 _),(ca hHeld.2.2.2.2.1 _),(ca hHeld.2.2.2.2.2 _)⟩ (fun hHeld => ?_)
 clear hK K
 refine norm_ (a':=?_) ?_ ?_
 rotate_left
 ·show Act.put _ (some 39) _ = _
  simp only [Act.put,sA_,sB_,sC_,i64_w,i32_w]
  rfl
 refine pv_ (i:=20) (N:=some 4) (v:=?_) (a':=?_) rfl rfl (by kernel_rfl) (fun _ _ _ h => h) (Or.inl ⟨by rfl,?_⟩) ?_ ?_
 rotate_left;intro w';go_simp;with_reducible rfl;rotate_left;simp only [Act.put,sA_,sB_,sC_,i64_w,i32_w];rfl
 refine done_ (by kernel_rfl) ?_
 clear hHeld
 go_wp2_with fail
 go_ret
 have hFd : Fr (fun _ => False) (give tag wa.heap.size T) (give tag wa.heap.size T) (wa.alloc (.cells (Post.cells ⟨1,P.no,P.site m,xn,m,cver⟩).toArray 49)) (wa.alloc (.cells (Post.cells ⟨1,P.no,P.site m,xn,m,cver⟩).toArray 49)).drew := Fr.drew (HFw.out.dom.give_alloc _ _)
 exact ⟨.slice (some ⟨wa.heap.size,0,none⟩) 1 1,give tag wa.heap.size T,rfl,(Row.post1 HFw.out.dom T ⟨1,P.no,P.site m,xn,m,cver⟩).fr hFd (fun x => x),(HFw.out.trans (Fr.give_alloc HFw.out.dom _ T)).trans hFd⟩
end
section
variable {S : Tag → Prop} {tag tag' : Nat → Tag} {w w' : World} {k p : Nat} {P : PlaceM}
def eachL (P : PlaceM) (kind n : Int) (l : List Clm) : List Post := l.map (fun c => ⟨kind,P.no,P.site c.item,n,c.item,0⟩)
theorem reach_ok {i nn : Nat} {n : Int} {y : PropM} (kind : Int) (T : Tag) (hT0 : T.1 ≠ 0) (hTk : T.1 ≠ k) (h : RPRep tag k w p P) (hok : TagOk tag w) (hi : P.props[i]? = some (n,y)) (hn : nn ≤ y.claims.length)
  (hm : ∀ c ∈ y.claims,∃ m : Nat,c.item = (m : Int) ∧ m < P.sites.length) (hcl : y.claims.length ≤ 1000) :
  Calls Try.prog 78 #[.pointer (some ⟨p,0,none⟩),.int .i64 (i : Int),.int .i64 kind,.int .i64 (nn : Int)] w fun e w' => ∃ ov tag',e = .returned ov ∧ Row tag' T 49 6 w' ov nn (posts (eachL P kind n (y.claims.take nn))) ∧ Fr (fun t => t = T) tag tag' w w' := by
 obtain ⟨i0,hinf,hz0,hz1,hz2⟩ := info_parts Try.info49
 have HRP := Lib.hid h
 obtain ⟨av,iv,pv,h1,h2,_,prs,h6,h7,h8⟩ := h.cells
 obtain ⟨PA,pcap,rfl,q1,q2⟩ := h7.form
 unfold maxLen at q2
 obtain ⟨SA,scap,rfl,s1,s2⟩ := h2.form
 unfold maxLen at s2
 have c0 : w.cell? ⟨p,0,none⟩ = some (.int .i64 P.no) := cell_of h1 0
 have c1 : w.cell? ⟨p,1,none⟩ = some (.slice SA P.sites.length scap) := cell_of h1 1
 have c3 : w.cell? ⟨p,3,none⟩ = some (.slice PA prs.length pcap) := cell_of h1 3
 have hil : i < prs.length := by have := (List.getElem?_eq_some_iff.1 hi).1; omega
 obtain ⟨⟨xn,xc,xs,xg⟩,hx⟩ : ∃ c,prs[i]? = some c := ⟨_,List.getElem?_eq_getElem hil⟩
 obtain ⟨r1,r2,r3,r4,r5⟩ := h8 i n y _ hi hx
 simp only at r1 r2 r3 r4 r5
 subst r1 r2 r3
 obtain ⟨pb,rfl,_,_,hce⟩ := Row.elem (enc := RPr.cells) h7 (fun _ => rfl) (by decide) hx
 have e0 : w.cell? ⟨pb,i * 4,none⟩ = some (.int .i64 xn) := hce 0 _ rfl
 have e1 : w.cell? ⟨pb,i * 4 + 1,none⟩ = some xc := hce 1 _ rfl
 have e2 : w.cell? ⟨pb,i * 4 + 2,none⟩ = some (.int .i64 y.state) := hce 2 _ rfl
 have e3 : w.cell? ⟨pb,i * 4 + 3,none⟩ = some (.int .i64 (y.granted : Int)) := hce 3 _ rfl
 obtain ⟨CA,ccap,rfl,z1,z2⟩ := r4.slice
 unfold maxLen at z2
 have i1 : (0 : Int) ≤ (i : Int) := by omega
 have i2 : (i : Int) < (prs.length : Int) := by omega
 have HR4 := Lib.hid r4
 have HR5 := Lib.hid r5
 have H2 := Lib.hid h2
 have HP1 := Lib.hid h1
 have hpt := h.ptr
 have hk0 := h.k0
 clear h h1 h2 h7 h8 hce hx r4 r5 hi
 go_enter Try.func78,Try.ntmps78
 go_wp2_with fail
 obtain ⟨wa,hwa⟩ : ∃ wa,wa = w.alloc (.cells #[.int .i64 xn,.slice CA y.claims.length ccap,.int .i64 y.state,.int .i64 (y.granted : Int)] 140) := ⟨_,rfl⟩
 rw [← hwa]
 obtain ⟨q,hq⟩ : ∃ q,q = w.heap.size := ⟨_,rfl⟩
 have hFa : Fr (fun t => t = T) tag tag w wa := by rw [hwa]; exact Fr.alloc hok _
 have hqt : (tag q).1 = 0 := by rw [hq]; exact hok.new
 have b0 : wa.cell? ⟨q,0,none⟩ = some (.int .i64 xn) := by rw [hwa,hq]; go_simp
 have b1 : wa.cell? ⟨q,1,none⟩ = some (.slice CA y.claims.length ccap) := by rw [hwa,hq]; go_simp
 have hqs : q < wa.heap.size := by rw [hwa,hq]; simp
 rw [← hq]
 have HFa := Lib.hid hFa
 clear hwa hFa hq
 have hpl : tag p ≠ T := by rw [hpt]; rintro rfl; exact hTk rfl
 have hql : tag q ≠ T := by rintro rfl; exact hT0 hqt
 go_loopw [11,9] (fun iv ov wr => ∃ (j : Nat),j ≤ nn ∧ iv = .int .i64 j ∧ ∃ tagr,Hid (Row tagr T 49 6 wr ov j (posts (eachL P kind xn (y.claims.take j)))) ∧ Hid (Fr (fun t => t = T) tag tagr wa wr)) (fun iv _ _ => nn - (intOf iv).toNat)
 case atStart => exact ⟨0,Nat.zero_le _,rfl,tag,Lib.hid (Row.nil _ _ _ _ _),Lib.hid (Fr.refl HFa.out.dom)⟩
 case round =>
  obtain ⟨j,hj,rfl,tagr,HROW,HF⟩ := hrel
  by_cases hlt : j < nn
  ·obtain ⟨⟨ci,cver⟩,hx⟩ : ∃ c,y.claims[j]? = some c := ⟨_,List.getElem?_eq_getElem (by omega)⟩
   obtain ⟨m,hm1,hm2⟩ := hm _ (List.mem_of_getElem? hx)
   simp only at hm1
   subst hm1
   obtain ⟨cb,coff,ccap2,hv,_,_,hac⟩ := Rd.elem (enc := Clm.cells) HR4.out (fun _ => rfl) (by decide) hx
   injection hv with hv _ hv2
   subst hv hv2
   obtain ⟨hct,hcs⟩ := HR5.out cb coff _ _ rfl
   have hcT : tag cb ≠ T := by rw [hct]; rintro rfl; exact hTk rfl
   obtain ⟨sb,scap2,hsv,_,_,sc⟩ := PRep.site_cell H2.out hm2
   injection hsv with hsv _ hsv2
   subst hsv hsv2
   have hsT : tag sb ≠ T ∧ sb < w.heap.size := by
    obtain ⟨b',hb1,hb2,hb3,_⟩ := H2.out.cell rfl (j:=m) (by rw [ints_len]; exact hm2)
    injection hb1 with hb1
    injection hb1 with hb1
    exact ⟨by rw [hb1,hb2]; rintro rfl; exact hTk rfl,by rw [hb1]; exact hb3⟩
   have HG := Lib.hid (HFa.out.trans HF.out)
   have f0 : wr.cell? ⟨cb,coff + j * 2,none⟩ = some (.int .i64 (m : Int)) := HG.out.cell (hac 0 _ rfl) hcT
   have d0 : wr.cell? ⟨p,0,none⟩ = some (.int .i64 P.no) := HG.out.cell c0 hpl
   have d1 : wr.cell? ⟨p,1,none⟩ = some (.slice (some ⟨sb,0,none⟩) P.sites.length scap) := HG.out.cell c1 hpl
   have d2 : wr.cell? ⟨sb,m,none⟩ = some (.int .i64 (P.site m)) := HG.out.cell sc hsT.1
   have g0 : wr.cell? ⟨q,0,none⟩ = some (.int .i64 xn) := HF.out.cell b0 hql
   have g1 : wr.cell? ⟨q,1,none⟩ = some (.slice (some ⟨cb,coff,none⟩) y.claims.length ccap) := HF.out.cell b1 hql
   have i3 : (0 : Int) ≤ (j : Int) := by omega
   have i4 : (j : Int) < (y.claims.length : Int) := by omega
   have i5 : (0 : Int) ≤ (m : Int) := by omega
   have i6 : (m : Int) < (P.sites.length : Int) := by omega
   have i7 : (j : Int) < (nn : Int) := by omega
   have hokr := HF.out.dom
   have HX := Lib.hid hx
   obtain ⟨OA,ocap,rfl,o1,o2⟩ := HROW.out.form
   clear hac sc hx
   go_wp2_with fail
   refine start_ (n:=20) (S:=fun w' => w'.cell? ⟨p,0,none⟩ = some (.int .i64 P.no) ∧ w'.cell? ⟨p,1,none⟩ = some (.slice (some ⟨sb,0,none⟩) P.sites.length scap) ∧ w'.cell? ⟨sb,m,none⟩ = some (.int .i64 (P.site m)) ∧ w'.cell? ⟨q,0,none⟩ = some (.int .i64 xn)) (ds := []) #[f_,f_,f_,f_,f_,f_,f_,f_,f_,f_,f_,f_,f_,f_,f_,f_,f_,f_,f_,f_] (by kernel_rfl) rfl rfl ⟨d0,d1,d2,g0⟩ (fun hHeld => ?_)
   refine pv_ (i:=0) (N:=some 31) (v:=?_) (a':=?_) rfl rfl (by kernel_rfl) (fun _ _ _ h => h) (Or.inl ⟨by rfl,?_⟩) ?_ ?_
   rotate_left;intro w';go_simp;with_reducible rfl;rotate_left;simp only [Act.put,sA_,sB_,sC_,i64_w,i32_w];rfl
   refine pv_ (i:=1) (N:=some 32) (v:=?_) (a':=?_) rfl rfl (by kernel_rfl) (fun _ _ _ h => h) (Or.inl ⟨by rfl,?_⟩) ?_ ?_
   rotate_left;intro w';go_simp;with_reducible rfl;rotate_left;simp only [Act.put,sA_,sB_,sC_,i64_w,i32_w];rfl
   refine pv_ (i:=2) (N:=some 33) (v:=?_) (a':=?_) rfl rfl (by kernel_rfl) (fun _ _ _ h => h) (Or.inl ⟨by rfl,?_⟩) ?_ ?_
   rotate_left;intro w';go_simp;with_reducible rfl;rotate_left;simp only [Act.put,sA_,sB_,sC_,i64_w,i32_w];rfl
   refine pv_ (i:=3) (N:=some 34) (v:=?_) (a':=?_) rfl rfl (by kernel_rfl) (fun _ _ _ h => h) (Or.inl ⟨by rfl,?_⟩) ?_ ?_
   rotate_left;intro w';go_simp;with_reducible rfl;rotate_left;simp only [Act.put,sA_,sB_,sC_,i64_w,i32_w];rfl
   refine pv_ (i:=4) (N:=some 35) (v:=?_) (a':=?_) rfl rfl (by kernel_rfl) (fun _ _ _ h => h) (Or.inl ⟨by rfl,?_⟩) ?_ ?_
   rotate_left;intro w';go_simp;with_reducible rfl;rotate_left;simp only [Act.put,sA_,sB_,sC_,i64_w,i32_w];rfl
   refine pv_ (i:=6) (N:=some 37) (v:=?_) (a':=?_) rfl rfl (by kernel_rfl) (fun _ _ _ h => h) (Or.inl ⟨by rfl,?_⟩) ?_ ?_
   rotate_left;intro w';go_simp;with_reducible rfl;rotate_left;simp only [Act.put,sA_,sB_,sC_,i64_w,i32_w];rfl
   refine pv_ (i:=7) (N:=some 38) (v:=?_) (a':=?_) rfl rfl (by kernel_rfl) (fun _ _ _ h => h) (Or.inl ⟨by rfl,?_⟩) ?_ ?_
   rotate_left;intro w';go_simp;with_reducible rfl;rotate_left;simp only [Act.put,sA_,sB_,sC_,i64_w,i32_w];rfl
   refine pv_ (i:=8) (N:=some 39) (v:=?_) (a':=?_) rfl rfl (by kernel_rfl) (fun _ _ _ h => h) (Or.inl ⟨by rfl,?_⟩) ?_ ?_
   rotate_left;intro w';go_simp;with_reducible rfl;rotate_left;simp only [Act.put,sA_,sB_,sC_,i64_w,i32_w];rfl
   refine pv_ (i:=10) (N:=some 41) (v:=?_) (a':=?_) rfl rfl (by kernel_rfl) (fun _ _ _ h => h) (Or.inl ⟨by rfl,?_⟩) ?_ ?_
   rotate_left;intro w';go_simp;with_reducible rfl;rotate_left;simp only [Act.put,sA_,sB_,sC_,i64_w,i32_w];rfl
   refine pv_ (i:=13) (N:=some 44) (v:=?_) (a':=?_) rfl rfl (by kernel_rfl) (fun _ _ _ h => h) (Or.inl ⟨by rfl,?_⟩) ?_ ?_
   rotate_left;intro w';go_simp;with_reducible rfl;rotate_left;simp only [Act.put,sA_,sB_,sC_,i64_w,i32_w];rfl
   refine pv_ (i:=15) (N:=some 46) (v:=?_) (a':=?_) rfl rfl (by kernel_rfl) (fun _ _ _ h => h) (Or.inl ⟨by rfl,?_⟩) ?_ ?_
   rotate_left;intro w';go_simp;with_reducible rfl;rotate_left;simp only [Act.put,sA_,sB_,sC_,i64_w,i32_w];rfl
   refine tv_ (i:=5) (N:=some 36) (v:=?_) (a':=?_) rfl rfl (by kernel_rfl) (fun _ _ _ h => h) (Or.inl ⟨by rfl,?_⟩) hHeld ?_ ?_
   rotate_left;rintro w' ⟨s0,s1,s2,s3⟩;go_simp;with_reducible rfl;rotate_left;simp only [Act.put,sA_,sB_,sC_,i64_w,i32_w];rfl
   refine tv_ (i:=9) (N:=some 40) (v:=?_) (a':=?_) rfl rfl (by kernel_rfl) (fun _ _ _ h => h) (Or.inl ⟨by rfl,?_⟩) hHeld ?_ ?_
   rotate_left;rintro w' ⟨s0,s1,s2,s3⟩;go_simp;with_reducible rfl;rotate_left;simp only [Act.put,sA_,sB_,sC_,i64_w,i32_w];rfl
   refine pv_ (i:=11) (N:=some 42) (v:=?_) (a':=?_) rfl rfl (by kernel_rfl) (fun _ _ _ h => h) (Or.inl ⟨by rfl,?_⟩) ?_ ?_
   rotate_left;intro w';go_simp;with_reducible rfl;rotate_left;simp only [Act.put,sA_,sB_,sC_,i64_w,i32_w];rfl
   refine tv_ (i:=12) (N:=some 43) (v:=?_) (a':=?_) rfl rfl (by kernel_rfl) (fun _ _ _ h => h) (Or.inl ⟨by rfl,?_⟩) hHeld ?_ ?_
   rotate_left;rintro w' ⟨s0,s1,s2,s3⟩;go_simp;with_reducible rfl;rotate_left;simp only [Act.put,sA_,sB_,sC_,i64_w,i32_w];rfl
   refine tv_ (i:=14) (N:=some 45) (v:=?_) (a':=?_) rfl rfl (by kernel_rfl) (fun _ _ _ h => h) (Or.inl ⟨by rfl,?_⟩) hHeld ?_ ?_
   rotate_left;rintro w' ⟨s0,s1,s2,s3⟩;go_simp;with_reducible rfl;rotate_left;simp only [Act.put,sA_,sB_,sC_,i64_w,i32_w];rfl
   refine pv_ (i:=16) (N:=some 47) (v:=?_) (a':=?_) rfl rfl (by kernel_rfl) (fun _ _ _ h => h) (Or.inl ⟨by rfl,?_⟩) ?_ ?_
   rotate_left;intro w';go_simp;with_reducible rfl;rotate_left;simp only [Act.put,sA_,sB_,sC_,i64_w,i32_w];rfl
   refine one_ (i:=17) (N:=some 48) #[t_,t_,t_,t_,t_,t_,t_,t_,t_,t_,t_,t_,t_,t_,t_,t_,t_,t_,f_,f_] rfl rfl (by kernel_rfl) (by decide) (fun K hK => ?_)
   refine value_ (w1:=?_) (v:=?_) (by rfl) rfl ?_ ?_
   rotate_left 2
   ·go_simp
    constructor
    ·rfl
    ·rfl
   refine hK.out _ _ ⟨(ca hHeld.1 _),(ca hHeld.2.1 _),(ca hHeld.2.2.1 _),(ca hHeld.2.2.2 _)⟩ (fun hHeld => ?_)
   clear hK K
   refine norm_ (a':=?_) ?_ ?_
   rotate_left
   ·show Act.put _ (some 48) _ = _
    simp only [Act.put,sA_,sB_,sC_,i64_w,i32_w]
    rfl
   refine one_ (i:=18) (N:=some 49) #[t_,t_,t_,t_,t_,t_,t_,t_,t_,t_,t_,t_,t_,t_,t_,t_,t_,t_,t_,f_] rfl rfl (by kernel_rfl) (by decide) (fun K hK => ?_)
   refine append_arm (by rfl) rfl (.tmp 31) (.tmp 48) 24 rfl (by rfl) (by rfl) (HROW.out.alloc _).drew (hokr.alloc _).drew Try.underlying24 hinf hz0 hz1 hz2 rfl (by decide) (Post.cells ⟨kind,P.no,P.site m,xn,m,0⟩) rfl (news_at (heap_alloc_at _ _)) (by simp [Post.cells,Value.oneCell']) (by decide) (by unfold maxLen; omega) (by omega) ?_
   intro g cap w1 tag1 hrow hfr
   have HROW1 := Lib.hid hrow
   have HFR := Lib.hid hfr
   have k0 : w1.cell? ⟨p,0,none⟩ = some (.int .i64 P.no) := hfr.cell (ca d0 _) (by rw [HG.out.same p (lt_of_heap HP1.out)]; exact hpl)
   have k1 : w1.cell? ⟨p,1,none⟩ = some (.slice (some ⟨sb,0,none⟩) P.sites.length scap) := hfr.cell (ca d1 _) (by rw [HG.out.same p (lt_of_heap HP1.out)]; exact hpl)
   have k2 : w1.cell? ⟨sb,m,none⟩ = some (.int .i64 (P.site m)) := hfr.cell (ca d2 _) (by rw [HG.out.same sb hsT.2]; exact hsT.1)
   have k3 : w1.cell? ⟨q,0,none⟩ = some (.int .i64 xn) := hfr.cell (ca g0 _) (by rw [HF.out.same q hqs]; exact hql)
   clear hrow hfr
   refine hK.out _ _ ⟨k0,k1,k2,k3⟩ (fun hHeld => ?_)
   clear hK K
   refine norm_ (a':=?_) ?_ ?_
   rotate_left
   ·show Act.put _ (some 49) _ = _
    simp only [Act.put,sA_,sB_,sC_,i64_w,i32_w]
    rfl
   refine pv_ (i:=19) (N:=some 9) (v:=?_) (a':=?_) rfl rfl (by kernel_rfl) (fun _ _ _ h => h) (Or.inl ⟨by rfl,?_⟩) ?_ ?_
   rotate_left;intro w';go_simp;with_reducible rfl;rotate_left;simp only [Act.put,sA_,sB_,sC_,i64_w,i32_w];rfl
   refine done_ (by kernel_rfl) ?_
   clear hHeld
   go_wp2_with fail
   go_roundw
   case rel =>
    refine ⟨j + 1,by omega,by go_num,tag1,Lib.hid ?_,Lib.hid (HF.out.trans (((Fr.alloc hokr _).trans (Fr.drew (hokr.alloc _))).trans HFR.out))⟩
    have ht : y.claims.take (j + 1) = y.claims.take j ++ [⟨(m : Int),cver⟩] := by rw [List.take_add_one,HX.out]; rfl
    have he : eachL P kind xn (y.claims.take (j + 1)) = eachL P kind xn (y.claims.take j) ++ [⟨kind,P.no,P.site m,xn,m,0⟩] := by rw [ht]; simp [eachL]
    rw [he,posts_snoc]
    exact HROW1.out
   case measure => simp [intOf]; omega
  ·have : j = nn := by omega
   subst this
   go_wp2_with fail
   go_ret
   exact ⟨_,tagr,rfl,HROW.out,HFa.out.trans HF.out⟩
end
theorem _root_.Go.Ng.Row.put_cell {tag : Nat → Tag} {t : Tag} {E sz : Nat} {w : World} {b n cap j : Nat} {ks : List Value} (h : Row tag t E sz w (.slice (some ⟨b,0,none⟩) n cap) n ks) (hj : j < ks.length) (u : Value) :
  Row tag t E sz (w.setCell ⟨b,j,none⟩ u) (.slice (some ⟨b,0,none⟩) n cap) n (ks.set j u) := by
 rcases h with ⟨h,ht⟩ | ⟨_,h0,h1⟩
 ·refine .inl ⟨⟨by simp [h.1],?_⟩,ht⟩
  rcases h.2 with ⟨h',_⟩ | ⟨g,cap',cur,hv,h0,hg,h1,h2,h3,h4⟩
  ·cases h'
  ·injection hv with hv _ hc
   injection hv with hv
   injection hv with hv
   subst hv hc
   refine .inr ⟨b,cap,cur.setIfInBounds j u,rfl,h0,Go.Ng.heap_setCell_same hg j u,h1,h2,by simpa using h3,?_⟩
   rw [Array.toList_setIfInBounds,List.take_set,h4]
 ·subst h1; simp at hj
theorem rits_len (l : List RIt) : (l.flatMap RIt.cells).length = l.length * 4 := flat_len _ 4 (fun _ => rfl) l
theorem rprs_len (l : List RPr) : (l.flatMap RPr.cells).length = l.length * 4 := flat_len _ 4 (fun _ => rfl) l
theorem rits_set : ∀ (l : List RIt) (j : Nat) (x : RIt),j < l.length →
  (((((l.flatMap RIt.cells).set (j * 4) (.int .i64 x.ver)).set (j * 4 + 1) (.int .i64 x.hold)).set (j * 4 + 2) x.wv).set (j * 4 + 3) x.tv) = (l.set j x).flatMap RIt.cells
 | [],j,x,h => by simp at h
 | y :: l,0,x,h => by simp [RIt.cells]
 | y :: l,j + 1,x,h => by
  have ih := rits_set l j x (by simpa using h)
  rw [sC_,List.flatMap_cons,List.flatMap_cons,← ih,Nat.add_mul]
  simp only [Nat.one_mul,RIt.cells,List.cons_append,List.nil_append]
  rfl
theorem rprs_set3 : ∀ (l : List RPr) (j : Nat) (x : RPr) (g : Int),l[j]? = some x → (l.flatMap RPr.cells).set (j * 4 + 3) (.int .i64 g) = (l.set j { x with got := g }).flatMap RPr.cells
 | [],j,x,g,h => by simp at h
 | y :: l,0,x,g,h => by simp at h; subst h; simp [RPr.cells]
 | y :: l,j + 1,x,g,h => by
  have ih := rprs_set3 l j x g (by simpa using h)
  rw [sC_,List.flatMap_cons,List.flatMap_cons,← ih,Nat.add_mul]
  simp only [Nat.one_mul,RPr.cells,List.cons_append,List.nil_append]
  rfl
theorem rprs_set2 : ∀ (l : List RPr) (j : Nat) (x : RPr) (g : Int),l[j]? = some x → (l.flatMap RPr.cells).set (j * 4 + 2) (.int .i64 g) = (l.set j { x with st := g }).flatMap RPr.cells
 | [],j,x,g,h => by simp at h
 | y :: l,0,x,g,h => by simp at h; subst h; simp [RPr.cells]
 | y :: l,j + 1,x,g,h => by
  have ih := rprs_set2 l j x g (by simpa using h)
  rw [sC_,List.flatMap_cons,List.flatMap_cons,← ih,Nat.add_mul]
  simp only [Nat.one_mul,RPr.cells,List.cons_append,List.nil_append]
  rfl
section
variable {S : Tag → Prop} {tag tag' : Nat → Tag} {w w' : World} {k p : Nat} {P : PlaceM}
theorem RItem.fr' {j : Nat} {it : ItemM} {x : RIt} (h : RItem tag k w j it x) (hf : Fr S tag tag' w w') (h6 : ¬ S (k,6,(j : Int))) (h7 : ¬ S (k,7,(j : Int))) : RItem tag' k w' j it x :=
 ⟨h.ver,h.hold,h.wr.fr hf h6,h.thr.fr hf h7⟩
theorem RItemO.fr' {j : Nat} {o : Option ItemM} {x : RIt} (h : RItemO tag k w j o x) (hf : Fr S tag tag' w w') (h6 : ¬ S (k,6,(j : Int))) (h7 : ¬ S (k,7,(j : Int))) : RItemO tag' k w' j o x := by
 cases o with
 | none => exact h
 | some it => exact RItem.fr' h hf h6 h7
theorem RPRep.set_item {j : Nat} {it it' : ItemM} {x' : RIt} {av iv pv : Value} {its : List RIt} (h : RPRep tag k w p P) (hj : P.items[j]? = some (some it)) (hf : Fr S tag tag' w w')
  (hS : ∀ t,S t → t = (k,3,0) ∨ t = (k,6,(j : Int)) ∨ t = (k,7,(j : Int)) ∨ t.1 ≠ k)
  (h1 : w.heap[p]? = some (.cells #[.int .i64 P.no,av,iv,pv] 125 (0,0))) (hl : its.length = P.items.length) (h5 : ∀ (j : Nat) o x,P.items[j]? = some o → its[j]? = some x → RItemO tag k w j o x)
  (h4 : Row tag' (k,3,0) 128 4 w' iv its.length ((its.set j x').flatMap RIt.cells)) (hI : RItem tag' k w' j it' x') : RPRep tag' k w' p (P.setItem j it') := by
 obtain ⟨av',iv',pv',g1,g2,_,prs,g6,g7,g8⟩ := h.cells
 obtain ⟨rfl,rfl,rfl⟩ : av' = av ∧ iv' = iv ∧ pv' = pv := by have := g1.symm.trans h1; simpa using this
 have hk0 := h.k0
 have no : ∀ (r : Nat) (i : Int),r ≠ 3 → (r ≠ 6 ∨ i ≠ j) → (r ≠ 7 ∨ i ≠ j) → ¬ S (k,r,i) := by
  intro r i n3 n6 n7 hs
  rcases hS _ hs with e | e | e | e
  ·injection e with _ e; injection e with e _; exact n3 e
  ·injection e with _ e; injection e with e1 e2; rcases n6 with n | n; exact n e1; exact n e2
  ·injection e with _ e; injection e with e1 e2; rcases n7 with n | n; exact n e1; exact n e2
  ·exact e rfl
 have hp : ¬ S (k,1,0) := no 1 0 (by decide) (.inl (by decide)) (.inl (by decide))
 refine ⟨hk0,(hf.tag_eq h1).trans h.ptr,av',iv',pv',hf.heap h1 (by rw [h.ptr]; exact hp),g2.fr hf (no 2 0 (by decide) (.inl (by decide)) (.inl (by decide))),⟨its.set j x',by simp [PlaceM.setItem,hl],by rw [List.length_set]; exact h4,?_⟩,
  prs,g6,g7.fr hf (no 4 0 (by decide) (.inl (by decide)) (.inl (by decide))),fun i n y x a b => ?_⟩
 ·intro i it1 x1 a b
  by_cases e : i = j
  ·subst e
   have hil : i < P.items.length := (List.getElem?_eq_some_iff.1 hj).1
   simp [PlaceM.setItem,hil] at a
   simp [hl,hil] at b
   subst a b
   exact hI
  ·simp only [PlaceM.setItem] at a
   rw [List.getElem?_set_ne (by omega)] at a b
   have e' : (i : Int) ≠ (j : Int) := by omega
   exact (h5 i it1 x1 a b).fr' hf (no 6 i (by decide) (.inr e') (.inl (by decide))) (no 7 i (by decide) (.inl (by decide)) (.inr e'))
 ·have := g8 i n y x a b
  exact ⟨this.no,this.st,this.got,this.cr.owned this.ct hf (no 5 i (by decide) (.inl (by decide)) (.inl (by decide))),this.ct.fr hf⟩
theorem upd_get {l : List (Int × PropM)} {n : Int} {x x' : PropM} {i : Nat} (hi : l[i]? = some (n,x)) : (upd l n x')[i]? = some (n,x') := by
 simp [upd,hi]
theorem upd_get_ne {l : List (Int × PropM)} {n m : Int} {x' y : PropM} {i : Nat} (hi : (upd l n x')[i]? = some (m,y)) : (m = n ∧ y = x' ∧ ∃ x,l[i]? = some (n,x)) ∨ (m ≠ n ∧ l[i]? = some (m,y)) := by
 simp only [upd,List.getElem?_map] at hi
 rcases h : l[i]? with _ | ⟨a,b⟩
 ·simp [h] at hi
 ·simp only [h,Option.map_some,Option.some.injEq] at hi
  by_cases e : a = n
  ·rw [if_pos e] at hi
   simp at hi
   exact .inl ⟨hi.1.symm,hi.2.symm,b,by rw [e]⟩
  ·rw [if_neg e] at hi
   simp at hi
   refine .inr ⟨by rw [← hi.1]; exact e,by rw [hi.1,hi.2]⟩
theorem RPRep.set_prop {i : Nat} {n : Int} {y y' : PropM} {x' : RPr} {av iv pv : Value} {prs : List RPr} (h : RPRep tag k w p P) (hi : P.props[i]? = some (n,y)) (hu : ∀ (i' : Nat) y',P.props[i']? = some (n,y') → i' = i) (hf : Fr S tag tag' w w')
  (hS : ∀ t,S t → t = (k,4,0) ∨ t.1 ≠ k)
  (h1 : w.heap[p]? = some (.cells #[.int .i64 P.no,av,iv,pv] 125 (0,0))) (hl : prs.length = P.props.length) (h8 : ∀ (i : Nat) n y x,P.props[i]? = some (n,y) → prs[i]? = some x → RProp tag k w i n y x)
  (h7 : Row tag' (k,4,0) 140 4 w' pv prs.length ((prs.set i x').flatMap RPr.cells)) (hI : RProp tag' k w' i n y' x') : RPRep tag' k w' p (setProp P n y') := by
 obtain ⟨av',iv',pv',g1,g2,⟨its,g3,g4,g5⟩,_⟩ := h.cells
 obtain ⟨rfl,rfl,rfl⟩ : av' = av ∧ iv' = iv ∧ pv' = pv := by have := g1.symm.trans h1; simpa using this
 have no : ∀ (r : Nat) (i : Int),r ≠ 4 → ¬ S (k,r,i) := by
  intro r i n3 hs
  rcases hS _ hs with e | e
  ·injection e with _ e; injection e with e _; exact n3 e
  ·exact e rfl
 refine ⟨h.k0,(hf.tag_eq h1).trans h.ptr,av',iv',pv',hf.heap h1 (by rw [h.ptr]; exact no _ _ (by decide)),g2.fr hf (no _ _ (by decide)),⟨its,g3,g4.fr hf (no _ _ (by decide)),fun j it x a b => (g5 j it x a b).fr' hf (no _ _ (by decide)) (no _ _ (by decide))⟩,
  prs.set i x',by simp [setProp,upd,hl],by rw [List.length_set]; exact h7,fun i1 n1 y1 x1 a b => ?_⟩
 have hil : i < P.props.length := (List.getElem?_eq_some_iff.1 hi).1
 rcases upd_get_ne (by exact a) with ⟨rfl,rfl,x2,hx2⟩ | ⟨hne,ha⟩
 ·have := hu _ _ hx2
  subst this
  simp [hl,hil] at b
  subst b
  exact hI
 ·have hii : i1 ≠ i := by
   rintro rfl
   rw [hi] at ha
   simp at ha
   exact hne ha.1.symm
  rw [List.getElem?_set_ne (by omega)] at b
  have := h8 i1 n1 y1 x1 ha b
  exact ⟨this.no,this.st,this.got,this.cr.owned this.ct hf (no _ _ (by decide)),this.ct.fr hf⟩
end
end Go.Proofs.Ytclkokkppgchfaa
