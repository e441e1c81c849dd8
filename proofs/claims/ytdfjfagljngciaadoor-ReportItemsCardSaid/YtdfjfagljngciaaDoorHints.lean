/- The hints of the functions of this translation, printed by a program of this session (wip/tools/mkhints.py): slots that a loop carries and keeps, an order of looking at each region that draws one. -/
import Derived.Test.YtdfjfagljngciaaDoorRx
import Derived.Test.YtdfjfagljngciaaDoorProg
namespace Go.Proofs.YtdfjfagljngciaaDoor
theorem Tryd.mixed : Tryd.prog.follows .mixedOrders = true := by kernel_rfl
/- gosem.cut.init -/
@[go_sem] def h2 : Rx.Hints := {}
/- sump/sumplaw43.ReportItems -/
@[go_sem] def h3 : Rx.Hints := { loops := [(7, ⟨[5, 39], [0, 3, 37, 38]⟩)], plans := [(16, .take 0 (.take 1 (.take 2 (.take 3 (.take 7 (.take 8 (.take 12 (.take 13 (.act 4 (.take 5 (.take 6 (.act 9 (.take 10 (.take 11 (.take 14 (.take 15 .done)))))))))))))))), (21, .take 0 (.take 1 (.take 4 (.take 5 (.take 9 (.take 10 (.take 14 (.take 15 (.take 19 (.take 20 (.take 24 (.take 25 (.take 29 (.take 30 (.take 33 (.take 34 (.take 37 (.take 38 (.take 39 (.act 2 (.act 3 (.act 6 (.act 7 (.take 8 (.act 11 (.act 12 (.take 13 (.act 16 (.act 17 (.take 18 (.act 21 (.act 22 (.take 23 (.act 26 (.act 27 (.take 28 (.act 31 (.take 32 (.act 35 (.take 36 (.act 40 (.act 41 (.take 42 (.take 43 .done))))))))))))))))))))))))))))))))))))))))))))], joins := [(12, ⟨[8], [0, 3, 5, 7, 37, 38, 39]⟩), (14, ⟨[8], [0, 3, 5, 7, 37, 38, 39]⟩)] }
/- sump/sumplaw43.ReportCalls -/
@[go_sem] def h4 : Rx.Hints := { plans := [(5, .take 0 (.take 1 (.take 4 (.take 5 (.take 9 (.take 10 (.take 14 (.take 15 (.take 19 (.take 20 (.take 24 (.take 25 (.take 28 (.take 29 (.take 32 (.take 33 (.take 34 (.act 2 (.act 3 (.act 6 (.act 7 (.take 8 (.act 11 (.act 12 (.take 13 (.act 16 (.act 17 (.take 18 (.act 21 (.act 22 (.take 23 (.act 26 (.take 27 (.act 30 (.take 31 (.act 35 (.act 36 (.take 37 (.take 38 .done))))))))))))))))))))))))))))))))))))))), (6, .take 0 (.take 2 (.act 1 (.take 3 (.take 4 (.take 5 (.take 7 (.take 8 (.take 11 (.take 12 (.take 16 (.take 17 (.act 6 (.act 9 (.take 10 (.act 13 (.take 14 (.take 15 (.act 18 (.take 19 (.take 20 (.take 21 (.take 22 .done)))))))))))))))))))))))] }
/- sump/sumplaw43.awake -/
@[go_sem] def h5 : Rx.Hints := {}
/- sump/sumplaw23.Few -/
@[go_sem] def h6 : Rx.Hints := { loops := [(2, ⟨[7], [0, 5, 6]⟩)] }
/- sump/sumplaw09.Few -/
@[go_sem] def h7 : Rx.Hints := { loops := [(2, ⟨[7], [0, 5, 6]⟩)] }
/- sump/sumplaw43.small -/
@[go_sem] def h8 : Rx.Hints := { loops := [(2, ⟨[7], [5, 6]⟩)] }
/- sump/sumplaw43.decimal -/
@[go_sem] def h9 : Rx.Hints := { loops := [(4, ⟨[3, 5], [4]⟩)], joins := [(2, ⟨[3, 4], [5]⟩)] }
/- sump/report.Item -/
@[go_sem] def h10 : Rx.Hints := { plans := [(1, .take 0 (.take 1 (.take 3 (.take 4 (.take 6 (.take 7 (.take 9 (.take 10 (.act 2 (.act 5 (.act 8 (.act 11 (.act 12 (.take 13 .done))))))))))))))] }
/- sump/sumplaw43.or -/
@[go_sem] def h11 : Rx.Hints := {}
/- sump/effect.Word -/
@[go_sem] def h12 : Rx.Hints := {}
/- sump/sumplaw43.part -/
@[go_sem] def h13 : Rx.Hints := {}
/- sump/report.Items -/
@[go_sem] def h14 : Rx.Hints := { loops := [(3, ⟨[8], [3, 6, 7]⟩)] }
/- sump/report.Effect -/
@[go_sem] def h15 : Rx.Hints := { blanks := [(3, .take 0 (.take 1 (.take 2 (.act 3 (.act 4 .done)))))] }
/- sump/sumplaw25.Few -/
@[go_sem] def h16 : Rx.Hints := {}
/- sump/call.Word -/
@[go_sem] def h17 : Rx.Hints := {}
/- sump/report.Call -/
@[go_sem] def h18 : Rx.Hints := { blanks := [(3, .take 0 (.take 1 (.take 2 (.act 3 (.act 4 .done)))))] }
/- sump/report.Done -/
@[go_sem] def h19 : Rx.Hints := { plans := [(1, .take 0 (.take 1 (.take 4 (.take 5 (.take 9 (.take 10 (.act 2 (.take 3 (.act 6 (.take 7 (.take 8 (.act 11 (.take 12 (.take 13 .done))))))))))))))] }
/- sump/reply.Text -/
@[go_sem] def h20 : Rx.Hints := { loops := [(10, ⟨[4, 46], [1, 3, 44, 45]⟩)], plans := [(6, .take 0 (.take 1 (.take 2 (.take 4 (.take 5 (.take 7 (.take 8 (.act 3 (.act 6 (.fin 9 (.fin 10 (.fin 11 (.fin 12 .done))))))))))))), (12, .take 0 (.take 1 (.take 2 (.take 3 (.take 4 (.take 5 (.take 6 (.fin 7 (.fin 8 (.fin 9 .done))))))))))] }
/- strings.Join -/
@[go_sem] def h21 : Rx.Hints := { loops := [(12, ⟨[5, 41], [0, 1, 39, 40]⟩), (22, ⟨[65], [1, 8, 63, 64]⟩)] }
/- sump/report.kind -/
@[go_sem] def h22 : Rx.Hints := {}
/- strconv.Itoa -/
@[go_sem] def h23 : Rx.Hints := {}
/- sump/effect.words -/
@[go_sem] def h24 : Rx.Hints := {}
/- (*strings.Builder).WriteString -/
@[go_sem] def h25 : Rx.Hints := {}
/- (*strings.Builder).String -/
@[go_sem] def h26 : Rx.Hints := { blanks := [(1, .take 0 (.take 1 (.take 2 (.take 3 (.take 5 (.take 6 (.take 7 (.take 8 (.take 9 (.act 4 (.act 10 (.take 11 .done))))))))))))] }
/- sump/report.Effect$1 -/
@[go_sem] def h27 : Rx.Hints := {}
/- (*sump/report.liner).num -/
@[go_sem] def h28 : Rx.Hints := {}
/- (*sump/report.liner).begin -/
@[go_sem] def h29 : Rx.Hints := {}
/- (*sump/report.liner).text -/
@[go_sem] def h30 : Rx.Hints := {}
/- sump/call.words -/
@[go_sem] def h31 : Rx.Hints := {}
/- sump/report.Call$1 -/
@[go_sem] def h32 : Rx.Hints := {}
/- sump/reply.or -/
@[go_sem] def h33 : Rx.Hints := {}
/- sump/reply.Word -/
@[go_sem] def h34 : Rx.Hints := {}
/- sump/reply.kind -/
@[go_sem] def h35 : Rx.Hints := {}
/- (*strings.Builder).Grow -/
@[go_sem] def h36 : Rx.Hints := { plans := [(3, .take 0 (.take 1 (.take 2 (.take 3 (.take 4 (.take 5 (.take 6 (.take 7 (.take 8 (.take 9 (.take 10 (.take 11 (.take 12 .done)))))))))))))] }
/- internal/strconv.Itoa -/
@[go_sem] def h37 : Rx.Hints := {}
/- (*strings.Builder).copyCheck -/
@[go_sem] def h38 : Rx.Hints := {}
/- sump/reply.words -/
@[go_sem] def h39 : Rx.Hints := {}
/- (*strings.Builder).grow -/
@[go_sem] def h40 : Rx.Hints := { plans := [(0, .take 0 (.take 1 (.take 2 (.take 3 (.take 4 (.take 5 (.take 6 (.take 7 (.take 9 (.take 10 (.take 11 (.take 12 (.take 13 (.act 8 (.take 14 (.take 15 .done))))))))))))))))] }
/- internal/strconv.FormatInt -/
@[go_sem] def h41 : Rx.Hints := {}
/- internal/strconv.small -/
@[go_sem] def h44 : Rx.Hints := {}
/- internal/strconv.numDigits -/
@[go_sem] def h45 : Rx.Hints := {}
/- internal/strconv.formatBase10 -/
@[go_sem] def h46 : Rx.Hints := { loops := [(1, ⟨[1, 4], [0]⟩)], plans := [(7, .take 0 (.take 1 (.take 2 (.take 3 (.take 4 (.take 5 (.take 6 (.take 7 (.take 8 (.take 9 (.take 10 (.take 11 (.fin 12 (.fin 13 (.fin 14 .done))))))))))))))), (8, .take 0 (.take 1 (.take 2 (.take 3 (.take 4 (.take 5 (.take 6 (.take 7 (.take 8 (.take 9 (.take 10 (.take 11 (.fin 12 (.fin 13 (.fin 14 .done))))))))))))))), (9, .take 0 (.take 1 (.take 2 (.take 3 (.take 4 (.take 5 (.take 6 (.take 7 (.take 8 (.take 9 (.take 10 (.take 11 (.fin 12 (.fin 13 (.fin 14 .done))))))))))))))), (10, .take 0 (.take 1 (.take 2 (.take 3 (.take 4 (.take 5 (.take 6 (.take 7 (.take 8 (.take 9 (.take 10 (.take 11 (.fin 12 (.fin 13 (.fin 14 .done))))))))))))))), (17, .take 0 (.take 1 (.take 2 (.take 3 (.take 4 (.take 5 (.take 6 (.take 7 (.take 8 (.take 9 (.take 10 (.take 11 (.fin 12 (.fin 13 (.fin 14 .done))))))))))))))), (18, .take 0 (.take 1 (.take 2 (.take 3 (.take 4 (.take 5 (.take 6 (.take 7 (.take 8 (.take 9 (.take 10 (.take 11 (.fin 12 (.fin 13 (.fin 14 .done))))))))))))))), (23, .take 0 (.take 1 (.take 2 (.take 3 (.take 4 (.take 5 (.take 6 (.take 7 (.take 8 (.take 9 (.take 10 (.take 11 (.fin 12 (.fin 13 (.fin 14 .done)))))))))))))))] }
/- internal/strconv.formatBits -/
@[go_sem] def h47 : Rx.Hints := { loops := [(11, ⟨[1, 13], [0, 3, 4, 10, 11, 12, 14, 15, 16]⟩), (18, ⟨[1, 13], [0, 3, 4, 10, 11, 12, 17]⟩)] }
/- internal/strconv.log10Pow2 -/
@[go_sem] def h48 : Rx.Hints := {}
/- math/bits.Len64 -/
@[go_sem] def h49 : Rx.Hints := {}
/- internal/strconv.bool2[int] -/
@[go_sem] def h50 : Rx.Hints := {}
/- internal/strconv.isPowerOfTwo -/
@[go_sem] def h51 : Rx.Hints := {}
/- math/bits.TrailingZeros -/
@[go_sem] def h52 : Rx.Hints := {}
/- math/bits.TrailingZeros32 -/
@[go_sem] def h53 : Rx.Hints := {}
/- math/bits.TrailingZeros64 -/
@[go_sem] def h54 : Rx.Hints := {}
/- gosem.cut.vars -/
@[go_sem] def h77 : Rx.Hints := {}
end Go.Proofs.YtdfjfagljngciaaDoor
