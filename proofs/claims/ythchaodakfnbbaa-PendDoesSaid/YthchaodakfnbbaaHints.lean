/- The hints of the functions of this translation, printed by a program of this session (wip/tools/mkhints.py): slots that a loop carries and keeps, an order of looking at each region that draws one. -/
import Derived.Test.YthchaodakfnbbaaRx
import Derived.Test.YthchaodakfnbbaaProg
namespace Go.Proofs.Ythchaodakfnbbaa
theorem Try.mixed : Try.prog.follows .mixedOrders = true := by kernel_rfl
/- gosem.cut.init -/
@[go_sem] def h2 : Rx.Hints := {}
/- sump/sumplaw24.FdFull -/
@[go_sem] def h3 : Rx.Hints := { loops := [(7, ⟨[30], [0, 1, 5, 7, 29]⟩)] }
/- sump/sumplaw24.FdDoes -/
@[go_sem] def h4 : Rx.Hints := { loops := [(8, ⟨[32], [1, 5, 6, 30, 31]⟩), (11, ⟨[9], [1, 5, 6, 8, 30, 31, 32]⟩), (39, ⟨[19, 20, 194], [1, 5, 6, 21, 30, 31, 32, 193]⟩)], plans := [(26, .take 0 (.take 1 (.take 2 (.take 3 (.take 4 (.take 5 (.take 6 (.take 7 (.take 8 (.take 9 (.take 10 (.act 11 (.take 12 (.take 13 (.take 14 (.take 15 (.take 16 (.take 17 (.take 18 (.take 19 (.act 20 (.take 21 (.take 22 .done))))))))))))))))))))))), (42, .take 0 (.take 1 (.take 2 (.take 3 (.take 4 (.take 5 (.take 6 (.take 7 (.take 8 (.take 9 (.act 10 (.take 11 .done))))))))))))], joins := [(11, ⟨[9], [1, 5, 6, 8, 30, 31, 32]⟩), (14, ⟨[], [1, 5, 6, 8, 9, 30, 31, 32]⟩), (17, ⟨[], [1, 5, 6, 30, 31, 32]⟩)], rjoins := [(16, ⟨[12], [1, 5, 6, 8, 9, 30, 31, 32]⟩)] }
/- sump/sumplaw24.FdOpens -/
@[go_sem] def h5 : Rx.Hints := { loops := [(7, ⟨[37], [2, 4, 7, 35, 36]⟩)] }
/- sump/sumplaw21.PendDoes -/
@[go_sem] def h6 : Rx.Hints := { loops := [(9, ⟨[8, 9, 10, 34], [0, 2, 7, 32, 33]⟩), (26, ⟨[14, 81], [0, 2, 7, 8, 9, 10, 32, 33, 34, 79, 80]⟩)], plans := [(32, .take 0 (.take 1 (.take 2 (.take 3 (.take 4 (.take 5 (.take 6 (.take 7 (.take 8 (.take 9 (.take 10 (.take 11 (.act 12 (.take 13 (.take 14 (.take 15 (.take 16 (.take 17 (.take 19 (.take 20 (.act 18 (.take 21 (.take 22 (.take 23 (.take 24 (.take 26 (.act 25 (.take 27 (.take 28 (.take 29 (.take 30 (.take 32 (.take 33 (.take 34 (.take 35 (.take 36 (.act 31 (.take 37 (.take 38 (.take 39 (.take 40 (.take 41 (.take 43 (.act 42 (.take 44 (.take 45 (.take 46 (.take 47 (.take 49 (.act 48 (.act 50 (.take 51 (.take 52 .done)))))))))))))))))))))))))))))))))))))))))))))))))))))], joins := [(11, ⟨[8, 9, 10], [0, 2, 7, 32, 33, 34]⟩)] }
/- sump/sumplaw21.PendOrder -/
@[go_sem] def h7 : Rx.Hints := { loops := [(7, ⟨[36], [0, 1, 5, 34, 35]⟩), (12, ⟨[48], [0, 1, 5, 47]⟩)] }
/- sump/sumplaw24.awake -/
@[go_sem] def h8 : Rx.Hints := {}
/- sump/fd.New -/
@[go_sem] def h9 : Rx.Hints := {}
/- (*sump/fd.Table).Open -/
@[go_sem] def h10 : Rx.Hints := { plans := [(4, .take 0 (.take 1 (.take 2 (.take 3 (.take 4 (.take 5 (.fin 6 .done)))))))] }
/- (*sump/fd.Table).Full -/
@[go_sem] def h11 : Rx.Hints := {}
/- (*sump/fd.Table).Len -/
@[go_sem] def h12 : Rx.Hints := {}
/- (*sump/fd.Table).Close -/
@[go_sem] def h13 : Rx.Hints := {}
/- (*sump/fd.Table).Next -/
@[go_sem] def h14 : Rx.Hints := { scopes := [(1, (0, ⟨[4], [0]⟩))] }
/- (*sump/fd.Table).Set -/
@[go_sem] def h15 : Rx.Hints := { plans := [(4, .take 0 (.take 1 (.take 2 (.take 3 (.take 4 (.take 5 (.fin 6 .done)))))))] }
/- (*sump/fd.Table).All -/
@[go_sem] def h16 : Rx.Hints := { loops := [(5, ⟨[3, 14], [13]⟩)] }
/- (*sump/fd.Table).Users -/
@[go_sem] def h17 : Rx.Hints := { loops := [(3, ⟨[5, 11], [1, 9, 10]⟩)] }
/- (*sump/fd.Table).Get -/
@[go_sem] def h18 : Rx.Hints := {}
/- sump/sumplaw21.awake -/
@[go_sem] def h19 : Rx.Hints := {}
/- sump/sumplaw09.Few -/
@[go_sem] def h20 : Rx.Hints := { loops := [(2, ⟨[7], [0, 5, 6]⟩)] }
/- (*sump/pend.List).Pop -/
@[go_sem] def h21 : Rx.Hints := {}
/- (*sump/pend.List).Add -/
@[go_sem] def h22 : Rx.Hints := { plans := [(4, .take 0 (.take 1 (.take 2 (.take 3 (.take 4 (.take 5 (.take 7 (.act 6 (.take 8 (.act 9 (.fin 10 (.fin 11 (.fin 12 (.fin 13 .done))))))))))))))] }
/- (*sump/pend.List).Head -/
@[go_sem] def h23 : Rx.Hints := { blanks := [(3, .take 0 (.take 1 (.take 2 (.take 3 (.take 4 (.take 5 (.take 6 (.take 7 (.take 8 (.take 9 (.take 10 (.take 11 (.take 12 (.take 13 (.act 14 (.fin 15 (.fin 16 .done)))))))))))))))))] }
/- sump/sumpref09.Same -/
@[go_sem] def h24 : Rx.Hints := {}
/- (*sump/pend.List).Len -/
@[go_sem] def h25 : Rx.Hints := {}
/- (*sump/pend.List).Gone -/
@[go_sem] def h26 : Rx.Hints := {}
/- (*sump/pend.List).Next -/
@[go_sem] def h27 : Rx.Hints := { plans := [(3, .take 0 (.take 1 (.take 2 (.take 3 (.take 4 (.take 5 (.take 6 (.take 7 (.take 8 (.take 9 (.take 10 (.take 11 .done))))))))))))] }
/- (*sump/pend.List).Last -/
@[go_sem] def h28 : Rx.Hints := { loops := [(5, ⟨[5, 18], [0, 1, 16, 17]⟩)] }
/- sump/sumpref09.SameAll -/
@[go_sem] def h29 : Rx.Hints := { loops := [(4, ⟨[13], [0, 1, 12]⟩)], plans := [(6, .take 0 (.take 1 (.take 2 (.take 3 (.take 4 (.take 5 (.take 6 (.take 7 (.act 8 (.take 9 .done))))))))))] }
/- (*sump/pend.List).All -/
@[go_sem] def h30 : Rx.Hints := { loops := [(5, ⟨[3, 13], [11, 12]⟩)] }
/- (*sump/fd.Table).ok -/
@[go_sem] def h31 : Rx.Hints := {}
/- sump/effect.Bare -/
@[go_sem] def h32 : Rx.Hints := {}
/- sump/effect.Touches -/
@[go_sem] def h33 : Rx.Hints := {}
end Go.Proofs.Ythchaodakfnbbaa
